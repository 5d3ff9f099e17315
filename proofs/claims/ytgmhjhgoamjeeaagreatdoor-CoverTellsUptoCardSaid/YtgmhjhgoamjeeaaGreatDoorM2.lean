/- The abstract machine and its walks (a verified interpreter of the model's code: plain definitions and lemmas, no condition). Printed by a program from longer texts: names made short. -/
import Derived.Test.YtgmhjhgoamjeeaaGreatDoorM1
import Derived.LaidEqlPtr
import Derived.RangeFuncLeaves
import Derived.RecoverIn
import Derived.OrdersIn
set_option linter.unusedSectionVars false
set_option linter.unusedSimpArgs false
set_option linter.unusedVariables false
set_option maxHeartbeats 64000000
noncomputable section
namespace Go.Proofs.YtgmhjhgoamjeeaaGreatDoor.a7
section
open Go Go.RowKit
variable [Lay]
theorem aQ.mS:∀{p q:aQ},aQ.hf p q=true->p=q
 | .z,.z,_=>rfl
 | .l p,.l q,h=>by rw [aQ.mS (p:=p) (q:=q) h]
 | .r p,.r q,h=>by rw [aQ.mS (p:=p) (q:=q) h]
 | .z,.l _,h=>by cases h
 | .z,.r _,h=>by cases h
 | .l _,.z,h=>by cases h
 | .l _,.r _,h=>by cases h
 | .r _,.z,h=>by cases h
 | .r _,.l _,h=>by cases h
theorem aQ.Bi:∀p:aQ,aQ.hf p p=true
 | .z=>rfl
 | .l p=>aQ.Bi p
 | .r p=>aQ.Bi p
section
variable {P:Program}
theorem Vc {aC:Fr} {E:Env} {h:ag} {w:World} (s:bc aC E h w) {b:aQ} {p:jW} (ai:E b=some p) (ak:(h.get b).Gs=true):(h.get b).own=true/\∃c t,w.heap[p.a']? =some (.cells c t (0,0)):=by
 have aA:=s.at ai;cases aL:h.get b<;>rw [aL] at ak<;>try (cases ak;done)
 rename_i n cs cI st;rw [aL] at aA;obtain ⟨_,p',c,el,b4,ax,_,yV,_,cH,_⟩:=aA;rw [ai] at ax;cases ax;have:st=false:=by simpa [b8.Gs] using ak
 rw [cH this] at yV;exact ⟨rfl,c,el,yV⟩
theorem Vr {t:TypeId} (h:jM P t=true):∃e j,P.underlying t=some (.pointer e)/\P.info? e=some j/\j.size≠0:=by
 unfold jM at h;cases aK:bf P t with
 | none=>rw [aK] at h;cases h
 | some aS=>
   rw [aK] at h;simp only at h;cases hu:aS.bk<;>rw [hu] at h<;>simp only at h<;>try (cases h;done)
   rename_i e;cases he:bf P e with
   | none=>rw [he] at h;cases h
   | some bh=>
     rw [he] at h;simp only at h;obtain ⟨_,_,ae,_⟩:=vs aK;obtain ⟨j,g1,_,g3,_⟩:=vs he;refine ⟨e,j,by rw [ae,hu],g1,fun cA=>?_⟩;rw [g3,cA] at h;cases h
theorem alo {t:TypeId} (h:jM P t=true) (w:World):∃e,(underlying t).run P w=.ok (.pointer e) w:=by obtain ⟨e,_,aa,_⟩:=Vr h;exact ⟨e,Me aa w⟩
theorem aml {t e:TypeId} {w:World} (hu:(underlying t).run P w=.ok (.pointer e) w) (b:Bool) (v:Value):(Instr.checkKey b 10000 t v).run P w=.ok () w:=by show (Instr.checkKey b (9999+1) t v).run P w=.ok () w;unfold Instr.checkKey;rw [Sem.run_bind,hu];rfl
theorem Vp {aC:Fr} {E:Env} {h:ag} {w:World} (s:bc aC E h w) {t:TypeId} (aK:jM P t=true) {x y:V} {X Y:Value} {b:Bool} (he:j5 h x y=some b) (ao:Rel E x X) (a6:Rel E y Y):
 (∃a c,X=.pointer (some a)/\Y=.pointer (some c))/\∀d,(Op.equalIn (d+1) t X Y).run P w=.ok b w:=by
 obtain ⟨e,j,ai,ct,cu⟩:=Vr aK;unfold j5 at he
 split at he
 case h_2=>cases he
 rename_i bM di
 split at he
 case h_2=>cases he
 rename_i b1 cY;simp only [Rel] at ao a6;obtain ⟨p,k6,rfl⟩:=ao;obtain ⟨q,iE,rfl⟩:=a6;refine ⟨⟨_,_,rfl,rfl⟩,fun d=>?_⟩;cases heq:aQ.hf bM b1 with
 | true=>
   rw [heq] at he;simp only [ap8,ap3] at he;have:=aQ.mS heq;subst this;rw [k6] at iE;cases iE;have ak:b=decide (di=cY):=by
    rw [<-he];by_cases h:di=cY
    . subst h;simp
    . rw [aqJ h,<-aqF,aqE];exact h
   have key:(sameAddr ⟨p.a',p.base+di,none⟩ ⟨p.a',p.base+cY,none⟩).run P w=.ok b w:=by
    rw [ak];by_cases h:di=cY
    . subst h;simpa using run_sameAddr_same w (⟨p.a',p.base+di,none⟩:Addr)
    . have cK:((⟨p.a',p.base+di,none⟩:Addr) == ⟨p.a',p.base+cY,none⟩)=false:=by
       rw [arw];intro e;injection e with _ aH _
       omega
      simp [sameAddr,cK,h]
   simp [Op.equalIn,run_underlying ai,sizeOf,typeInfo,ct,cu,key]
 | false=>
   rw [heq] at he;simp only [aqe] at he;obtain ⟨av,he⟩:=eM he;simp only [ap2] at av;cases he;obtain ⟨Lx,bW,t1,rP⟩:=Vc s k6 av.1;obtain ⟨Ly,b6,t2,JL⟩:=Vc s iE av.2;have cK:(⟨p.a',p.base+di,none⟩:Addr)≠⟨q.a',q.base+cY,none⟩:=by
    intro e;injection e with ax _ _
    have:=s.inj bM b1 p q Lx Ly k6 iE ax;subst this;rw [aQ.Bi] at heq;cases heq
   simp [Op.equalIn,run_underlying ai,sizeOf,typeInfo,ct,cu,run_sameAddr_other w cK rP JL]
theorem Vo {aC:Fr} {E:Env} {h:ag} {w:World} (s:bc aC E h w) {op:BinOp} {t:TypeId} {neg:Bool} (mr:xv P op t=some neg) {x y:V} {jL ib:Operand} {X Y:Value} {b:Bool} (he:j5 h x y=some b) (ao:Rel E x X) (a6:Rel E y Y):
 ∃Z,(do eqGuard op t jL ib X Y;binOp op t X Y:Sem Value).run P w=.ok Z w/\Rel E (.bool (bif neg then !b else b)) Z:=by
 unfold xv at mr;have main:jM P t=true->((op=.eql/\neg=false)\/(op=.neq/\neg=true))->∃Z,(do eqGuard op t jL ib X Y;binOp op t X Y:Sem Value).run P w=.ok Z w/\Rel E (.bool (bif neg then !b else b)) Z:=by
  intro aK mZ;obtain ⟨⟨a,c,rfl,rfl⟩,cU⟩:=Vp s aK he ao a6;have aL:=fun (o:BinOp)=>EA (P:=P) (op:=o) (t:=t) (x:=jL) (y:=ib) (X:=.pointer (some a)) (Y:=.pointer (some c)) (by simp) (.inl (by simp)) w;have ax:(Op.equal t (.pointer (some a)) (.pointer (some c))).run P w=.ok b w:=cU 9999;rcases mZ with ⟨rfl,rfl⟩ | ⟨rfl,rfl⟩
  . refine ⟨.bool b,?_,by simp [Rel]⟩;rw [Sem.run_bind,aL,Result.andThen_ok,binOp_eql (X:=.pointer (some a)) True.intro,Sem.run_bind,ax];rfl
  . refine ⟨.bool (!b),?_,by simp [Rel]⟩;rw [Sem.run_bind,aL,Result.andThen_ok,binOp_neq (X:=.pointer (some a)) True.intro,Sem.run_bind,ax];rfl
 cases op<;>simp only at mr<;>try (cases mr;done)
 . obtain ⟨aa,ae⟩:=eM mr;cases ae;exact main aa (.inl ⟨rfl,rfl⟩)
 . obtain ⟨aa,ae⟩:=eM mr;cases ae;exact main aa (.inr ⟨rfl,rfl⟩)
end
section
variable {P:Program}
def x6 (P:Program) (w:World) (E:Env) (dc:TypeId) (e:dL):Prop:=
 ∀k bs K om b,e.run k bs=some b->Rel E k K->Rel E bs om->(Op.equal dc K om).run P w=.ok b w/\(b=true->om=K/\Instr.sameBits 10000 K K=true)
theorem aln {aC:Fr} {E:Env} {h:ag} {w:World} (s:bc aC E h w) {dc:TypeId} (aK:jM P dc=true):x6 P w E dc ⟨j5 h⟩:=by
 intro k bs K om b he ao a6;obtain ⟨⟨a,c,rfl,rfl⟩,cU⟩:=Vp s aK he ao a6;refine ⟨cU 9999,fun ak=>?_⟩;subst ak;simp only [j5] at he
 split at he
 case h_2=>cases he
 split at he
 case h_2=>cases he
 rename_i bM di _ b1 cY;simp only [Rel] at ao a6;obtain ⟨p,k6,ao⟩:=ao;obtain ⟨q,iE,a6⟩:=a6;cases heq:aQ.hf bM b1 with
 | false=>
   rw [heq] at he;simp only [aqe] at he;obtain ⟨_,he⟩:=eM he;cases he
 | true=>
   rw [heq] at he;simp only [ap8,ap3] at he;have:=aQ.mS heq;subst this;rw [k6] at iE;cases iE;have:=aqZ he;subst this;rw [ao,a6];exact ⟨rfl,by simp [Instr.sameBits]⟩
theorem Rq {w:World} {E:Env} {dc:TypeId} {e:dL} (jh:x6 P w E dc e) {k:V} {K:Value} (aA:Rel E k K):∀(es:List ca) (l:List MapEntry) (r:Option V) (i:Nat),kz e k es=some r->dr E es l->
 ∃R,(Instr.findAsking dc K l i).run P w=.ok R w/\(match r with
  | none=>R=none
  | some v=>∃j Y,R=some (j,Y)/\Rel E v Y)
 | [],l,r,i,h,aD=>by simp only [dr] at aD;subst aD;simp only [kz,ap3] at h;subst h;exact ⟨none,rfl,rfl⟩
 | m::ms,l,r,i,h,aD=>by
   obtain ⟨dC,es,rfl,aa,ae,aM,bw⟩:=aD;simp only [kz] at h;cases aO:e.run k m.k with
   | none=>rw [aO] at h;cases h
   | some b=>
     rw [aO] at h;simp only at h;obtain ⟨al,au⟩:=jh _ _ _ _ _ aO aA aa;cases b with
     | true=>
       simp only [ap8,ap3] at h;subst h;exact ⟨some (i,dC.val),by simp [Instr.findAsking,al],i,dC.val,rfl,ae⟩
     | false=>
       simp only [aqe] at h;obtain ⟨R,g1,g2⟩:=Rq jh aA ms es r (i+1) h bw;exact ⟨R,by simp [Instr.findAsking,al,g1],g2⟩
theorem Vs {w:World} {E:Env} {dc:TypeId} {e:dL} (jh:x6 P w E dc e) {k v:V} {K X:Value} (aA:Rel E k K) (bz:Rel E v X) (clock:Nat):∀(es:List ca) (l:List MapEntry) (r:List ca × Bool) (i:Nat),ln e k v clock es=some r->dr E es l->
 (r.2=true->(Instr.findAsking dc K l i).run P w=.ok none w/\dr E r.1 (l++[⟨K,X,clock⟩]))/\
 (r.2=false->∃j dC Y,(Instr.findAsking dc K l i).run P w=.ok (some (i+j,Y)) w/\l[j]? =some dC/\Instr.sameBits 10000 dC.key K=true/\dr E r.1 (l.modify j fun dC=>{dC with key:=K,val:=X}))
 | [],l,r,i,h,aD=>by simp only [dr] at aD;subst aD;simp only [ln,ap3] at h;subst h;exact ⟨fun _=>⟨rfl,_,_,rfl,aA,bz,rfl,rfl⟩,fun h=>by cases h⟩
 | m::ms,l,r,i,h,aD=>by
   obtain ⟨dC,es,rfl,aa,ae,aM,bw⟩:=aD;simp only [ln] at h;cases aO:e.run k m.k with
   | none=>rw [aO] at h;cases h
   | some b=>
     rw [aO] at h;simp only at h;obtain ⟨al,au⟩:=jh _ _ _ _ _ aO aA aa;cases b with
     | true=>
       simp only [ap8,ap3] at h;subst h;obtain ⟨aJ,bE⟩:=au rfl;refine ⟨fun h=>(by cases h),fun _=>⟨0,dC,dC.val,by simp [Instr.findAsking,al],rfl,by rw [aJ];exact bE,?_⟩⟩;exact ⟨_,es,rfl,aA,bz,aM,bw⟩
     | false=>
       simp only [aqe] at h;cases ai:ln e k v clock ms with
       | none=>rw [ai] at h;cases h
       | some bb=>
         rw [ai] at h;simp only [ap3] at h;subst h;obtain ⟨g1,g2⟩:=Vs jh aA bz clock ms es bb (i+1) ai bw;refine ⟨fun h=>?_,fun h=>?_⟩
         . obtain ⟨bC,a2⟩:=g1 h;exact ⟨by simp [Instr.findAsking,al,bC],⟨dC,es++[⟨K,X,clock⟩],rfl,aa,ae,aM,a2⟩⟩
         . obtain ⟨j,c7,Y,bC,a2,a3,a4⟩:=g2 h;exact ⟨j+1,c7,Y,by simp [Instr.findAsking,al,bC];omega,by simpa using a2,a3,⟨dC,_,rfl,aa,ae,aM,a4⟩⟩
theorem amn {dc:TypeId} {kW:TypeId} {w:World} (hu:(underlying dc).run P w=.ok (.pointer kW) w) {K:Value} {l:List MapEntry} {R:Option (Nat × Value)} (h:(Instr.findAsking dc K l 0).run P w=.ok R w):
 (Instr.findKey dc K l).run P w=.ok R w:=by
 cases l with
 | nil=>
   simp only [Instr.findAsking,Sem.run_pure] at h;cases h;simp [Instr.findKey,hu,Instr.findNow]
 | cons dC es=>
   have aW:Instr.findNow (.pointer kW) K (dC::es) 0=none:=by simp [Instr.findNow,Instr.sameNow]
   simp [Instr.findKey,hu,aW,h]
theorem ab_ {x y:V} (h:sT x y=true):x=y:=by
 cases x<;>simp only [sT] at h<;>try (cases h;done)
 all_goals (cases y<;>simp only at h<;>try (cases h;done))
 . rw [arO] at h;rw [h]
 . simp only [ap2,mS,arO] at h;rw [uy h.1,h.2]
 . rw [vZ,arO] at h;rw [h]
theorem Ra:∀{xs cy:List V},qh xs cy=true->xs=cy
 | [],[],_=>rfl
 | [],_::_,h=>by cases h
 | _::_,[],h=>by cases h
 | x::xs,y::cy,h=>by
   simp only [qh] at h;cases aa:sT x y with
   | false=>rw [aa] at h;cases h
   | true=>rw [aa] at h;rw [ab_ aa,Ra h]
theorem ab' {E:Env} {x:V} {X Y:Value} (h:sT x x=true) (dp:Rel E x X) (fG:Rel E x Y):X=Y/\∀n,Instr.sameBits n X X=true:=by
 cases x<;>simp only [sT] at h<;>try (cases h;done)
 . simp only [Rel] at dp fG;subst dp fG;exact ⟨rfl,fun n=>by cases n<;>simp [Instr.sameBits]⟩
 . simp only [Rel] at dp fG;subst dp fG;exact ⟨rfl,fun n=>by cases n<;>simp [Instr.sameBits]⟩
 . simp only [Rel] at dp fG;subst dp fG;exact ⟨rfl,fun n=>by cases n<;>simp [Instr.sameBits,bytes_beq]⟩
theorem Q_ {E:Env}:∀{xs:List V} {l eH:List Value},qh xs xs=true->bj E xs l->bj E xs eH->l=eH/\∀n,((l.zip l).all fun (x,y)=>Instr.sameBits n x y)=true
 | [],l,eH,_,aa,ae=>by simp only [bj] at aa ae;subst aa ae;exact ⟨rfl,fun _=>rfl⟩
 | x::xs,l,eH,h,aa,ae=>by
   obtain ⟨y,cy,rfl,bC,a2⟩:=aa;obtain ⟨o4,ap0,rfl,bM,b1⟩:=ae;simp only [qh] at h;cases av:sT x x with
   | false=>rw [av] at h;cases h
   | true=>
     rw [av] at h;obtain ⟨rfl,al⟩:=ab' av bC bM;obtain ⟨rfl,au⟩:=Q_ h a2 b1;exact ⟨rfl,fun n=>by simp only [List.zip_cons_cons,arz,al,au,Bool.and_self]⟩
theorem am1 {w:World} {E:Env} {dc:TypeId}:x6 P w E dc (structEq P dc):=by
 intro k bs K om b he ao a6;simp only [structEq] at he
 split at he
 case h_2=>cases he
 split at he
 case h_2=>cases he
 rename_i xs _ cy;cases ar:(h3 P 12 dc).run (.agg xs) (.agg cy) with
 | none=>rw [ar] at he;cases he
 | some c=>
   rw [ar] at he;have aO:=IP 12 Op.maxDepth dc _ _ K om c (by decide) ar ao a6 w;cases c with
   | false=>
     simp only [aqe,ap3] at he;subst he;exact ⟨aO,fun h=>by cases h⟩
   | true=>
     simp only [ap8] at he;cases ai:qh xs cy with
     | false=>rw [ai] at he;cases he
     | true=>
       rw [ai] at he;simp only [ap8,ap3] at he;subst he;refine ⟨aO,fun _=>?_⟩;have:=Ra ai;subst this;simp only [Rel] at ao a6;obtain ⟨a,rfl,aa⟩:=ao;obtain ⟨bn,rfl,ae⟩:=a6;obtain ⟨e,q⟩:=Q_ ai aa ae;have c7:a=bn:=ar2.1 e;subst c7;exact ⟨rfl,by show Instr.sameBits (9999+1) _ _=true;simp only [Instr.sameBits,beq_self_eq_true,aqY];exact q _⟩
theorem run_checkKey_plain {bk:TypeDesc} (aF:k_ bk=true) {t:TypeId} {w:World} (hu:(underlying t).run P w=.ok bk w) (b:Bool) (n:Nat) (v:Value):(Instr.checkKey b (n+1) t v).run P w=.ok () w:=by
 unfold Instr.checkKey;rw [Sem.run_bind,hu];cases bk<;>simp only [k_] at aF<;>first
  | (cases aF;done)
  | rfl
theorem acI {w:World} {E:Env} {cs:List V} {a:Array Value} (bp:bj E cs a.toList) (b:Bool) (n:Nat):∀(b9:List Field),EJ P cs b9=true->
 (do for f in b9 do
      if f.name≠ "_" then Instr.checkKey b (n+1) f.type (<-part f.type a f.offset):Sem Unit).run P w=.ok () w:=by
 intro b9
 induction b9 with
 | nil=>intro _;simp
 | cons f b9 bd=>
   intro h;simp only [EJ] at h;cases aa:(qT P f.type f.offset).run cs with
   | none=>rw [aa] at h;cases h
   | some x=>
     rw [aa] at h;simp only at h;cases ae:bf P f.type with
     | none=>rw [ae] at h;cases h
     | some kY=>
       rw [ae] at h;simp only at h;cases aM:k_ kY.bk with
       | false=>rw [aM] at h;cases h
       | true=>
         rw [aM] at h;simp only [ap8] at h;obtain ⟨X,dp,_⟩:=CM bp aa w;have aA:=run_checkKey_plain (P:=P) aM (fJ ae w) b n X;have:=bd h;by_cases aW:f.name= "_"
         . simpa [aW] using this
         . simpa [aW,dp,aA] using this
theorem am2 {t:TypeId} (h:mI P t=true) (w:World):∃b9,(underlying t).run P w=.ok (.struct b9) w:=by
 unfold mI at h;cases aK:bf P t with
 | none=>rw [aK] at h;cases h
 | some aS=>
   rw [aK] at h;simp only at h;have hu:=fJ aK w;cases bZ:aS.bk<;>rw [bZ] at h<;>simp only at h<;>try (cases h;done)
   rw [bZ] at hu;exact ⟨_,hu⟩
theorem amm {t:TypeId} {k:V} (aL:lW P t k=true) {E:Env} {K:Value} (aA:Rel E k K) {w:World} (b:Bool):(Instr.checkKey b 10000 t K).run P w=.ok () w:=by
 unfold lW at aL;cases aK:bf P t with
 | none=>rw [aK] at aL;cases aL
 | some aS=>
   rw [aK] at aL;simp only at aL;have hu:=fJ aK w;cases bZ:aS.bk<;>rw [bZ] at aL<;>simp only at aL<;>try (cases aL;done)
   rename_i b9;rw [bZ] at hu;cases k<;>simp only at aL<;>try (cases aL;done)
   rename_i cs;simp only [Rel] at aA;obtain ⟨a,rfl,bp⟩:=aA;show (Instr.checkKey b (9998+1+1) t (.agg a)).run P w=.ok () w;unfold Instr.checkKey;rw [Sem.run_bind,hu];have:=acI (P:=P) (w:=w) bp b 9998 b9.toList aL;simp only [Result.andThen_ok,Array.forIn_toList] at this ⊢;exact this
theorem amo {dc:TypeId} {b9:Array Field} {w:World} (hu:(underlying dc).run P w=.ok (.struct b9) w) {K:Value} {l:List MapEntry} {R:Option (Nat × Value)} (h:(Instr.findAsking dc K l 0).run P w=.ok R w):
 (Instr.findKey dc K l).run P w=.ok R w:=by
 cases l with
 | nil=>
   simp only [Instr.findAsking,Sem.run_pure] at h;cases h;simp [Instr.findKey,hu,Instr.findNow]
 | cons dC es=>
   have aW:Instr.findNow (.struct b9) K (dC::es) 0=none:=by simp [Instr.findNow,Instr.sameNow]
   simp [Instr.findKey,hu,aW,h]
structure As (P:Program) (w:World) (E:Env) (dc:TypeId) (e:dL) (K:Value):Prop where
 eq:x6 P w E dc e
 check:∀b,(Instr.checkKey b 10000 dc K).run P w=.ok () w
 find:∀{l:List MapEntry} {R},(Instr.findAsking dc K l 0).run P w=.ok R w->(Instr.findKey dc K l).run P w=.ok R w
theorem HZ {aC:Fr} {E:Env} {h:ag} {w:World} (s:bc aC E h w) {dc:TypeId} (aK:jM P dc=true) (K:Value):As P w E dc ⟨j5 h⟩ K:=by obtain ⟨U9,nQ⟩:=alo aK w;exact ⟨aln s aK,fun b=>aml nQ b K,fun q=>amn nQ q⟩
theorem H0 {w:World} {E:Env} {dc:TypeId} (aK:mI P dc=true) {k:V} (aL:lW P dc k=true) {K:Value} (aA:Rel E k K):As P w E dc (structEq P dc) K:=by obtain ⟨b9,nQ⟩:=am2 aK w;exact ⟨am1,fun b=>amm aL aA b,fun q=>amo nQ q⟩
end
section
variable {P:Program}
theorem KP {E:Env} {bk:TypeDesc} {k bs:V} {K om:Value} {b:Bool} (he:(lV bk).run k bs=some b) (ao:Rel E k K) (a6:Rel E bs om):
 Instr.sameNow bk K om=some b/\(b=true->om=K/\∀n,Instr.sameBits n K K=true):=by
 cases bk<;>simp only [lV] at he<;>try (simp [dL.none] at he;done)
 case bool=>
  simp only [rB] at he;cases k<;>simp only at he<;>try (cases he;done)
  cases bs<;>simp only at he<;>try (cases he;done)
  simp only [Rel] at ao a6;subst ao a6;simp only [ap3] at he;subst he;refine ⟨rfl,fun h=>?_⟩;rw [arO] at h;subst h;exact ⟨rfl,fun n=>by cases n<;>simp [Instr.sameBits]⟩
 case int nX=>
  simp only [iC] at he;obtain ⟨j,m,rfl,aa⟩:=kl he;clear he;obtain ⟨FN,dd,rfl,ae⟩:=kl aa;clear aa;obtain ⟨aA,h⟩:=eM ae;clear ae;have:=uy aA;subst this;simp only [Rel] at ao a6;subst ao a6;simp only [ap3,mS] at h;subst h;refine ⟨by simp [Instr.sameNow],fun h=>?_⟩;rw [arO] at h;subst h;exact ⟨rfl,fun n=>by cases n<;>simp [Instr.sameBits]⟩
 case string=>
  simp only [kb] at he;cases k<;>simp only at he<;>try (cases he;done)
  cases bs<;>simp only at he<;>try (cases he;done)
  simp only [Rel] at ao a6;subst ao a6;simp only [ap3,vZ] at he;subst he;refine ⟨by simp only [Instr.sameNow,bytes_beq],fun h=>?_⟩;rw [arO] at h;subst h;exact ⟨rfl,fun n=>by cases n<;>simp [Instr.sameBits,bytes_beq]⟩
theorem run_checkKey {bk:TypeDesc} (aF:k_ bk=true) {t:TypeId} {w:World} (hu:(underlying t).run P w=.ok bk w) (b:Bool) (v:Value):(Instr.checkKey b 10000 t v).run P w=.ok () w:=by
 show (Instr.checkKey b (9999+1) t v).run P w=.ok () w;unfold Instr.checkKey;rw [Sem.run_bind,hu];cases bk<;>simp only [k_] at aF<;>first
  | (cases aF;done)
  | rfl
theorem run_findKey {bk:TypeDesc} {t:TypeId} {w:World} (hu:(underlying t).run P w=.ok bk w) {K:Value} {l:List MapEntry} {R:Option (Nat × Value)} (h:Instr.findNow bk K l 0=some R):
 (Instr.findKey t K l).run P w=.ok R w:=by
 simp only [Instr.findKey,Sem.run_bind,hu,Result.andThen_ok,h,Sem.run_pure]
theorem Rv {E:Env} {bk:TypeDesc} {k:V} {K:Value} (aA:Rel E k K):∀(es:List ca) (l:List MapEntry) (r:Option V) (i:Nat),kz (lV bk) k es=some r->dr E es l->
 ∃R,Instr.findNow bk K l i=some R/\(match r with
  | none=>R=none
  | some v=>∃j Y,R=some (j,Y)/\Rel E v Y)
 | [],l,r,i,h,aD=>by simp only [dr] at aD;subst aD;simp only [kz,ap3] at h;subst h;exact ⟨none,rfl,rfl⟩
 | m::ms,l,r,i,h,aD=>by
   obtain ⟨e,es,rfl,aa,ae,aM,bw⟩:=aD;simp only [kz] at h;cases aO:(lV bk).run k m.k with
   | none=>rw [aO] at h;cases h
   | some b=>
     rw [aO] at h;simp only at h;obtain ⟨al,au⟩:=KP aO aA aa;cases b with
     | true=>
       simp only [ap8,ap3] at h;subst h;exact ⟨some (i,e.val),by simp only [Instr.findNow,al],i,e.val,rfl,ae⟩
     | false=>
       simp only [aqe] at h;obtain ⟨R,g1,g2⟩:=Rv aA ms es r (i+1) h bw;exact ⟨R,by simp only [Instr.findNow,al,g1],g2⟩
theorem Vv {E:Env} {bk:TypeDesc} {k v:V} {K X:Value} (aA:Rel E k K) (bz:Rel E v X) (clock:Nat):∀(es:List ca) (l:List MapEntry) (r:List ca × Bool) (i:Nat),ln (lV bk) k v clock es=some r->dr E es l->
 (r.2=true->Instr.findNow bk K l i=some none/\dr E r.1 (l++[⟨K,X,clock⟩]))/\
 (r.2=false->∃j e Y,Instr.findNow bk K l i=some (some (i+j,Y))/\l[j]? =some e/\Instr.sameBits 10000 e.key K=true/\dr E r.1 (l.modify j fun e=>{e with key:=K,val:=X}))
 | [],l,r,i,h,aD=>by simp only [dr] at aD;subst aD;simp only [ln,ap3] at h;subst h;exact ⟨fun _=>⟨rfl,_,_,rfl,aA,bz,rfl,rfl⟩,fun h=>by cases h⟩
 | m::ms,l,r,i,h,aD=>by
   obtain ⟨e,es,rfl,aa,ae,aM,bw⟩:=aD;simp only [ln] at h;cases aO:(lV bk).run k m.k with
   | none=>rw [aO] at h;cases h
   | some b=>
     rw [aO] at h;simp only at h;obtain ⟨al,au⟩:=KP aO aA aa;cases b with
     | true=>
       simp only [ap8,ap3] at h;subst h;obtain ⟨aJ,bE⟩:=au rfl;refine ⟨fun h=>(by cases h),fun _=>⟨0,e,e.val,by simp only [Instr.findNow,al,aro],rfl,by rw [aJ];exact bE _,?_⟩⟩;exact ⟨_,es,rfl,aA,bz,aM,bw⟩
     | false=>
       simp only [aqe] at h;cases ai:ln (lV bk) k v clock ms with
       | none=>rw [ai] at h;cases h
       | some bb=>
         rw [ai] at h;simp only [ap3] at h;subst h;obtain ⟨g1,g2⟩:=Vv aA bz clock ms es bb (i+1) ai bw;refine ⟨fun h=>?_,fun h=>?_⟩
         . obtain ⟨bC,a2⟩:=g1 h;exact ⟨by simp only [Instr.findNow,al,bC],⟨e,es++[⟨K,X,clock⟩],rfl,aa,ae,aM,a2⟩⟩
         . obtain ⟨j,c7,Y,bC,a2,a3,a4⟩:=g2 h;exact ⟨j+1,c7,Y,by simp only [Instr.findNow,al,bC];congr 3;omega,by simpa using a2,a3,e,_,rfl,aa,ae,aM,a4⟩
theorem K4 {aC:Fr} {E:Env} {h:ag} {w:World} (s:bc aC E h w) {x:V} {X:Value} {es:List ca} (he:pO h x=some es) (ao:Rel E x X):
 (X=.map none/\es=[])\/∃r a clock,X=.map (some r)/\(getObj r).run P w=.ok (.map a clock) w/\dr E es a.toList:=by
 cases x<;>simp only [pO] at he<;>try (cases he;done)
 . simp only [Rel] at ao;exact .inl ⟨ao,by simpa using he.symm⟩
 . rename_i b;simp only [Rel] at ao;obtain ⟨p,ai,rfl⟩:=ao;have ak:=s.at ai;cases aL:h.get b<;>rw [aL] at he<;>simp only [b8.hU] at he<;>try (cases he;done)
   simp only [ap3] at he;subst he;rw [aL] at ak;obtain ⟨q,a,aa,_,aM,bw⟩:=ak;rw [ai] at aa;cases aa;exact .inr ⟨p.a',a,_,rfl,by simp only [getObj,Sem.run,aM];rfl,bw⟩
theorem Rs {bk:TypeDesc} {K:Value}:∀{l:List MapEntry} {i:Nat},(∀e ∈ l,Instr.sameNow bk K e.key=some false)->Instr.findNow bk K l i=some none
 | [],_,_=>rfl
 | e::es,i,h=>by simp only [Instr.findNow,h e (by simp)];exact Rs fun c7 eG=>h c7 (by simp [eG])
theorem Rt {bk:TypeDesc} {K:Value}:∀{l:List MapEntry} {i:Nat},(∀e ∈ l,∃b,Instr.sameNow bk K e.key=some b)->(∃e ∈ l,Instr.sameNow bk K e.key=some true)->
 ∃j,∃e ∈ l,Instr.sameNow bk K e.key=some true/\Instr.findNow bk K l i=some (some (j,e.val))
 | [],_,_,h=>by obtain ⟨e,he,_⟩:=h;simp at he
 | e::es,i,aa,ae=>by
   obtain ⟨b,ak⟩:=aa e (by simp);cases b with
   | true=>exact ⟨i,e,by simp,ak,by simp only [Instr.findNow,ak]⟩
   | false=>
     obtain ⟨c7,eG,aK⟩:=ae;simp only [aql] at eG;rcases eG with rfl | eG
     . rw [ak] at aK;cases aK
     . obtain ⟨j,aH,al,au,aJ⟩:=Rt (i:=i+1) (fun x ao=>aa x (by simp [ao])) ⟨c7,eG,aK⟩;exact ⟨j,aH,by simp [al],au,by simp only [Instr.findNow,ak,aJ]⟩
theorem Ru {E:Env} {bk:TypeDesc} {k:V} {K:Value} (aA:Rel E k K):∀(es:List ca) (l:List MapEntry) (r:Option V),nK (lV bk) k es=some r->jf E es l->
 (∀e ∈ l,∃b,Instr.sameNow bk K e.key=some b)/\(match r with
  | none=>∀e ∈ l,Instr.sameNow bk K e.key=some false
  | some v=>(∃e ∈ l,Instr.sameNow bk K e.key=some true)/\∀e ∈ l,Instr.sameNow bk K e.key=some true->Rel E v e.val)
 | [],l,r,h,aD=>by simp only [jf] at aD;subst aD;simp only [nK,ap3] at h;subst h;exact ⟨fun e he=>by simp at he,fun e he=>by simp at he⟩
 | m::ms,l,r,h,aD=>by
   obtain ⟨e,es,rfl,aa,ae,bw⟩:=aD;simp only [nK] at h;cases aF:nK (lV bk) k ms with
   | none=>rw [aF] at h;cases h
   | some bb=>
     rw [aF] at h;simp only at h;obtain ⟨g1,g2⟩:=Ru aA ms es bb aF bw;cases aO:(lV bk).run k m.k with
     | none=>rw [aO] at h;cases h
     | some b=>
       rw [aO] at h;simp only at h;obtain ⟨al,_⟩:=KP aO aA aa;have Jw:∀c7 ∈ e::es,∃b,Instr.sameNow bk K c7.key=some b:=by
        intro c7 eG;rcases aql.1 eG with rfl | eG
        . exact ⟨b,al⟩
        . exact g1 c7 eG
       refine ⟨Jw,?_⟩;cases b with
       | true=>
         simp only [ap8] at h;cases bb with
         | some _=>cases h
         | none=>
           simp only [ap3] at h;subst h;refine ⟨⟨e,by simp,al⟩,fun c7 eG aK=>?_⟩;rcases aql.1 eG with rfl | eG
           . exact ae
           . have:=g2 c7 eG;rw [aK] at this;cases this
       | false=>
         simp only [aqe,ap3] at h;subst h;cases bb with
         | none=>
           intro c7 eG;rcases aql.1 eG with rfl | eG
           . exact al
           . exact g2 c7 eG
         | some v=>
           obtain ⟨⟨cA,dU,gn⟩,y3⟩:=g2;refine ⟨⟨cA,by simp [dU],gn⟩,fun c7 eG aK=>?_⟩;rcases aql.1 eG with rfl | eG
           . rw [al] at aK;cases aK
           . exact y3 c7 eG aK
theorem acz {E:Env} {bk:TypeDesc} {k:V} {K:Value} (aA:Rel E k K) {es:List ca} {l a:List MapEntry} {r:Option V} (h:nK (lV bk) k es=some r) (aD:jf E es l) (ai:l.Perm a):
 ∃R,Instr.findNow bk K a 0=some R/\(match r with
  | none=>R=none
  | some v=>∃j Y,R=some (j,Y)/\Rel E v Y):=by
 obtain ⟨aa,ae⟩:=Ru aA es l r h aD;have hm:∀e,e ∈ a↔e ∈ l:=fun e=>ai.mem_iff.symm;cases r with
 | none=>exact ⟨none,Rs fun e he=>ae e ((hm e).1 he),rfl⟩
 | some v=>
   obtain ⟨⟨cA,dU,gn⟩,y3⟩:=ae;obtain ⟨j,e,al,au,aJ⟩:=Rt (i:=0) (fun e he=>aa e ((hm e).1 he)) ⟨cA,(hm cA).2 dU,gn⟩;exact ⟨_,aJ,j,e.val,rfl,y3 e ((hm e).1 al) au⟩
theorem ajm {e:dL} {z:V} {ok:Bool} {h:ag} {x k v:V} (he:iq e z ok h x k=some v):
 hI e z ok h x k=some v\/∃b es r,x=.map b/\h.get b=.ia es/\nK e k es=some r/\v=(match r with
  | some u=>bif ok then .tuple [u,.bool true] else u
  | none=>bif ok then .tuple [z,.bool false] else z):=by
 unfold iq at he;cases x<;>simp only at he<;>try (exact .inl he)
 rename_i b;cases aL:h.get b<;>rw [aL] at he<;>simp only at he<;>try (exact .inl he)
 rename_i es;cases aF:nK e k es with
 | none=>rw [aF] at he;cases he
 | some r=>
   rw [aF] at he;refine .inr ⟨b,es,r,rfl,aL,aF,?_⟩;cases r<;>simp only [ap3] at he<;>exact he.symm
theorem ajl {aC:Fr} {E:Env} {h:ag} {w:World} (s:bc aC E h w) {t:TypeId} {ok:Bool} {x k v:V} {X K:Value} (ao:Rel E x X) (aA:Rel E k K) (he:(FZ P t ok).run h x k=some v):
 ∃Z,(Instr.lookup t X K ok).run P w=.ok Z w/\Rel E v Z:=by
 unfold FZ at he;cases aK:bf P t with
 | none=>rw [aK] at he;cases he
 | some aS=>
   rw [aK] at he;simp only at he;have hu:=fJ aK w;cases bZ:aS.bk<;>rw [bZ] at he<;>simp only at he<;>try (cases he;done)
   rename_i dc kW;rw [bZ] at hu;cases j2:bf P dc with
   | none=>rw [j2] at he;cases he
   | some gP=>
     rw [j2] at he;simp only at he;cases het:bf P kW with
     | none=>rw [het] at he;cases he
     | some bh=>
       rw [het] at he;simp only at he;cases bl:bh.zero with
       | none=>rw [bl] at he;cases he
       | some z=>
         rw [bl] at he;simp only at he;cases aF:k_ gP.bk with
         | false=>
           rw [aF] at he;simp only [aqe] at he;have uF:∃e,As P w E dc e K/\hI e z ok h x k=some v:=by
            cases qC:jM P dc with
            | true=>
              rw [qC] at he;exact ⟨_,HZ s qC K,he⟩
            | false=>
              rw [qC] at he;simp only [aqe] at he;cases cH:mI P dc with
              | false=>rw [cH] at he;cases he
              | true=>
                rw [cH] at he;simp only [ap8] at he;obtain ⟨aL,he⟩:=eM he;exact ⟨_,H0 cH aL aA,he⟩
           clear he;obtain ⟨e,ask,he⟩:=uF;obtain ⟨vx,nV,nd,_⟩:=z_ (P:=P) het bl E w;simp only [hI] at he;cases hm:pO h x with
           | none=>rw [hm] at he;cases he
           | some es=>
             rw [hm] at he;simp only at he;cases wJ:kz e k es with
             | none=>rw [wJ] at he;cases he
             | some r=>
               rw [wJ] at he;simp only at he;have main:∀(l:List MapEntry),dr E es l->∃R,(Instr.findKey dc K l).run P w=.ok R w/\
                ((R=none/\Rel E v (if ok=true then .tuple #[vx,.bool false] else vx))\/∃j Y,R=some (j,Y)/\Rel E v (if ok=true then .tuple #[Y,.bool true] else Y)):=by
                intro l aw;obtain ⟨R,g1,g2⟩:=Rq ask.eq aA es l r 0 wJ aw;refine ⟨R,ask.find g1,?_⟩;cases r with
                | none=>
                  simp only at g2 he;refine .inl ⟨g2,?_⟩;simp only [ap3] at he;subst he;cases ok
                  . exact nd
                  . simp only [ap8,aqB,Rel,bj];exact ⟨_,rfl,_,_,rfl,nd,_,_,rfl,rfl,rfl⟩
                | some u=>
                  simp only at g2 he;obtain ⟨j,Y,cT,fG⟩:=g2;refine .inr ⟨j,Y,cT,?_⟩;simp only [ap3] at he;subst he;cases ok
                  . exact fG
                  . simp only [ap8,aqB,Rel,bj];exact ⟨_,rfl,_,_,rfl,fG,_,_,rfl,rfl,rfl⟩
               rcases K4 (P:=P) s hm ao with ⟨rfl,rfl⟩ | ⟨aU,a,clock,rfl,eV,BV⟩
               . obtain ⟨R,g1,g2⟩:=main [] rfl;have kB:=ask.check true;rcases g2 with ⟨rfl,g3⟩ | ⟨j,Y,rfl,g3⟩
                 all_goals
                  refine ⟨_,?_,g3⟩;simp only [Instr.lookup,Sem.run_bind,hu,Result.andThen_ok,Sem.run_pure];have ax:(#[]:Array MapEntry).isEmpty=true:=rfl;rw [ax,kB,Result.andThen_ok,g1,Result.andThen_ok];simp only [Sem.run_bind,nV,Result.andThen_ok,Sem.run_pure]
               . obtain ⟨R,g1,g2⟩:=main a.toList BV;have kB:=ask.check a.isEmpty;rcases g2 with ⟨rfl,g3⟩ | ⟨j,Y,rfl,g3⟩
                 all_goals
                  refine ⟨_,?_,g3⟩;simp only [Instr.lookup,Sem.run_bind,hu,Result.andThen_ok,Sem.run_pure,eV];rw [kB,Result.andThen_ok,g1,Result.andThen_ok];simp only [Sem.run_bind,nV,Result.andThen_ok,Sem.run_pure]
         | true=>
           rw [aF] at he;simp only [ap8] at he;obtain ⟨vx,nV,nd,_⟩:=z_ (P:=P) het bl E w;have nQ:=fJ j2 w;rcases ajm he with he | ⟨b,es,r,rfl,aL,aer,rfl⟩
           case inr=>
            simp only [Rel] at ao;obtain ⟨p,ai,rfl⟩:=ao;have ak:=s.at ai;rw [aL] at ak;obtain ⟨p',a,c,l,gS,_,a_,afB,zi⟩:=ak;rw [ai] at gS;cases gS;obtain ⟨R,g1,g2⟩:=acz aA aer afB zi;have eV:(getObj p.a').run P w=.ok (.map a c) w:=by simp only [getObj,Sem.run,a_]
            have kB:=run_checkKey (P:=P) aF nQ a.isEmpty K;have ES:=run_findKey nQ g1;cases r with
            | none=>
              simp only at g2;subst g2;refine ⟨if ok=true then .tuple #[vx,.bool false] else vx,?_,?_⟩
              . simp only [Instr.lookup,Sem.run_bind,hu,Result.andThen_ok,Sem.run_pure,eV];rw [kB,Result.andThen_ok,ES,Result.andThen_ok];simp only [Sem.run_bind,nV,Result.andThen_ok,Sem.run_pure]
              . cases ok
                . exact nd
                . simp only [ap8,aqB,Rel,bj];exact ⟨_,rfl,_,_,rfl,nd,_,_,rfl,rfl,rfl⟩
            | some u=>
              simp only at g2;obtain ⟨j,Y,rfl,fG⟩:=g2;refine ⟨if ok=true then .tuple #[Y,.bool true] else Y,?_,?_⟩
              . simp only [Instr.lookup,Sem.run_bind,hu,Result.andThen_ok,Sem.run_pure,eV];rw [kB,Result.andThen_ok,ES,Result.andThen_ok];simp only [Sem.run_bind,Sem.run_pure,Result.andThen_ok]
              . cases ok
                . exact fG
                . simp only [ap8,aqB,Rel,bj];exact ⟨_,rfl,_,_,rfl,fG,_,_,rfl,rfl,rfl⟩
           simp only [hI] at he;cases hm:pO h x with
           | none=>rw [hm] at he;cases he
           | some es=>
             rw [hm] at he;simp only at he;cases wJ:kz (lV gP.bk) k es with
             | none=>rw [wJ] at he;cases he
             | some r=>
               rw [wJ] at he;simp only at he;have main:∀(l:List MapEntry),dr E es l->∃R,(Instr.findKey dc K l).run P w=.ok R w/\
                ((R=none/\Rel E v (if ok=true then .tuple #[vx,.bool false] else vx))\/∃j Y,R=some (j,Y)/\Rel E v (if ok=true then .tuple #[Y,.bool true] else Y)):=by
                intro l aw;obtain ⟨R,g1,g2⟩:=Rv aA es l r 0 wJ aw;refine ⟨R,run_findKey nQ g1,?_⟩;cases r with
                | none=>
                  simp only at g2 he;refine .inl ⟨g2,?_⟩;simp only [ap3] at he;subst he;cases ok
                  . exact nd
                  . simp only [ap8,aqB,Rel,bj];exact ⟨_,rfl,_,_,rfl,nd,_,_,rfl,rfl,rfl⟩
                | some u=>
                  simp only at g2 he;obtain ⟨j,Y,cT,fG⟩:=g2;refine .inr ⟨j,Y,cT,?_⟩;simp only [ap3] at he;subst he;cases ok
                  . exact fG
                  . simp only [ap8,aqB,Rel,bj];exact ⟨_,rfl,_,_,rfl,fG,_,_,rfl,rfl,rfl⟩
               rcases K4 (P:=P) s hm ao with ⟨rfl,rfl⟩ | ⟨aU,a,clock,rfl,eV,BV⟩
               . obtain ⟨R,g1,g2⟩:=main [] rfl;have kB:=run_checkKey (P:=P) aF nQ true K;rcases g2 with ⟨rfl,g3⟩ | ⟨j,Y,rfl,g3⟩
                 all_goals
                  refine ⟨_,?_,g3⟩;simp only [Instr.lookup,Sem.run_bind,hu,Result.andThen_ok,Sem.run_pure];have ax:(#[]:Array MapEntry).isEmpty=true:=rfl;rw [ax,kB,Result.andThen_ok,g1,Result.andThen_ok];simp only [Sem.run_bind,nV,Result.andThen_ok,Sem.run_pure]
               . obtain ⟨R,g1,g2⟩:=main a.toList BV;have kB:=run_checkKey (P:=P) aF nQ a.isEmpty K;rcases g2 with ⟨rfl,g3⟩ | ⟨j,Y,rfl,g3⟩
                 all_goals
                  refine ⟨_,?_,g3⟩;simp only [Instr.lookup,Sem.run_bind,hu,Result.andThen_ok,Sem.run_pure,eV];rw [kB,Result.andThen_ok,g1,Result.andThen_ok];simp only [Sem.run_bind,nV,Result.andThen_ok,Sem.run_pure]
theorem WO {aC:Fr} {E:Env} {h ab:ag} {w:World} (s:bc aC E h w) {t:TypeId} {x k v:V} {X K Y:Value} (ao:Rel E x X) (aA:Rel E k K) (bz:Rel E v Y) (he:(pY P t).run h x k v=some ab):
 ∃w',(Instr.mapUpdate t X K Y).run P w=.ok () w'/\bc aC E ab w':=by
 unfold pY at he;cases aK:bf P t with
 | none=>rw [aK] at he;cases he
 | some aS=>
   rw [aK] at he;simp only at he;have hu:=fJ aK w;cases bZ:aS.bk<;>rw [bZ] at he<;>simp only at he<;>try (cases he;done)
   rename_i dc kW;rw [bZ] at hu;cases j2:bf P dc with
   | none=>rw [j2] at he;cases he
   | some gP=>
     rw [j2] at he;simp only at he;cases aF:k_ gP.bk with
     | false=>
       rw [aF] at he;simp only [aqe] at he;have uF:∃e,As P w E dc e K/\kO e h x k v=some ab:=by
        cases qC:jM P dc with
        | true=>
          rw [qC] at he;exact ⟨_,HZ s qC K,he⟩
        | false=>
          rw [qC] at he;simp only [aqe] at he;cases cH:mI P dc with
          | false=>rw [cH] at he;cases he
          | true=>
            rw [cH] at he;simp only [ap8] at he;obtain ⟨aL,he⟩:=eM he;exact ⟨_,H0 cH aL aA,he⟩
       clear he;obtain ⟨e,ask,he⟩:=uF;cases x<;>simp only [kO] at he<;>try (cases he;done)
       rename_i b;simp only [Rel] at ao;obtain ⟨p,ai,rfl⟩:=ao;have ak:=s.at ai;cases aL:h.get b<;>rw [aL] at he<;>simp only [b8.hU] at he<;>try (cases he;done)
       rename_i es clock;rw [aL] at ak;obtain ⟨q,a,aa,cJ,aM,bw⟩:=ak;rw [ai] at aa;cases aa;cases wZ:ln e k v clock es with
       | none=>rw [wZ] at he;cases he
       | some r=>
         rw [wZ] at he;simp only [ap3] at he;subst he;have eV:(getObj p.a').run P w=.ok (.map a clock) w:=by simp only [getObj,Sem.run,aM]
         have kB:=ask.check false;have k7:=(ap5.1 aM).1;have Bg:∀(bn:Array MapEntry) (fT:Nat),dr E r.1 bn.toList->fT=(bif r.2 then clock+1 else clock)->
          ∃w',(setObj p.a' (.map bn fT)).run P w=.ok () w'/\bc aC E (h.set b (.mp r.1 (bif r.2 then clock+1 else clock))) w':=by
          intro bn fT hm av;refine ⟨{w with heap:=w.heap.setIfInBounds p.a' (.map bn fT)},by simp only [setObj,Sem.run,aM],s.set (p:=p) (by rw [aL];rfl) ai cJ (by simp) (fun j bG=>?_) rfl rfl rfl (fun _ _ _ e=>by cases e) ?_⟩
          . simp only [aqo];rw [aqa (fun e=>bG e.symm)]
          . exact ⟨p,bn,ai,cJ,by simp [k7,av],hm⟩
         obtain ⟨g1,g2⟩:=Vs ask.eq aA bz clock es a.toList r 0 wZ bw;cases mu:r.2 with
         | true=>
           obtain ⟨bC,a2⟩:=g1 mu;obtain ⟨w',d1,d2⟩:=Bg (a.push ⟨K,Y,clock⟩) (clock+1) (by simpa using a2) (by rw [mu];rfl);rw [mu] at d2;refine ⟨w',?_,d2⟩;simp only [Instr.mapUpdate,Sem.run_bind,hu,Result.andThen_ok,eV,kB,ask.find bC,d1]
         | false=>
           obtain ⟨j,dC,X5,bC,a2,a3,a4⟩:=g2 mu;obtain ⟨w',d1,d2⟩:=Bg (a.modify j fun dC=>{dC with key:=K,val:=Y}) clock (by simpa using a4) (by rw [mu];rfl);rw [mu] at d2;refine ⟨w',?_,d2⟩;rw [aqP] at bC;have ax:a[j]? =some dC:=by simpa using a2
           simp only [Instr.mapUpdate,Sem.run_bind,hu,Result.andThen_ok,eV,kB,ask.find bC,ax,Option.map,Option.getD,Instr.keyThatStays,a3,aqB,Sem.run_pure,d1]
     | true=>
       rw [aF] at he;simp only [ap8] at he;have nQ:=fJ j2 w;cases x<;>simp only [kO] at he<;>try (cases he;done)
       rename_i b;simp only [Rel] at ao;obtain ⟨p,ai,rfl⟩:=ao;have ak:=s.at ai;cases aL:h.get b<;>rw [aL] at he<;>simp only [b8.hU] at he<;>try (cases he;done)
       rename_i es clock;rw [aL] at ak;obtain ⟨q,a,aa,cJ,aM,bw⟩:=ak;rw [ai] at aa;cases aa;cases wZ:ln (lV gP.bk) k v clock es with
       | none=>rw [wZ] at he;cases he
       | some r=>
         rw [wZ] at he;simp only [ap3] at he;subst he;have eV:(getObj p.a').run P w=.ok (.map a clock) w:=by simp only [getObj,Sem.run,aM]
         have kB:=run_checkKey (P:=P) aF nQ false K;have k7:=(ap5.1 aM).1;have done:∀(bn:Array MapEntry) (fT:Nat),dr E r.1 bn.toList->fT=(bif r.2 then clock+1 else clock)->
          ∃w',(setObj p.a' (.map bn fT)).run P w=.ok () w'/\bc aC E (h.set b (.mp r.1 (bif r.2 then clock+1 else clock))) w':=by
          intro bn fT hm av;refine ⟨{w with heap:=w.heap.setIfInBounds p.a' (.map bn fT)},by simp only [setObj,Sem.run,aM],s.set (p:=p) (by rw [aL];rfl) ai cJ (by simp) (fun j bG=>?_) rfl rfl rfl (fun _ _ _ e=>by cases e) ?_⟩
          . simp only [aqo];rw [aqa (fun e=>bG e.symm)]
          . exact ⟨p,bn,ai,cJ,by simp [k7,av],hm⟩
         obtain ⟨g1,g2⟩:=Vv aA bz clock es a.toList r 0 wZ bw;cases mu:r.2 with
         | true=>
           obtain ⟨bC,a2⟩:=g1 mu;obtain ⟨w',d1,d2⟩:=done (a.push ⟨K,Y,clock⟩) (clock+1) (by simpa using a2) (by rw [mu];rfl);rw [mu] at d2;refine ⟨w',?_,d2⟩;simp only [Instr.mapUpdate,Sem.run_bind,hu,Result.andThen_ok,eV,kB,run_findKey nQ bC,d1]
         | false=>
           obtain ⟨j,e,X5,bC,a2,a3,a4⟩:=g2 mu;obtain ⟨w',d1,d2⟩:=done (a.modify j fun e=>{e with key:=K,val:=Y}) clock (by simpa using a4) (by rw [mu];rfl);rw [mu] at d2;refine ⟨w',?_,d2⟩;rw [aqP] at bC;have ax:a[j]? =some e:=by simpa using a2
           simp only [Instr.mapUpdate,Sem.run_bind,hu,Result.andThen_ok,eV,kB,run_findKey nQ bC,ax,Option.map,Option.getD,Instr.keyThatStays,a3,aqB,Sem.run_pure,d1]
theorem Us {aC:Fr} {E:Env} {h ab:ag} {w:World} (s:bc aC E h w) {v:V} (he:tq h=.val v ab):c_ aC P E w (do pure (.map (some (<-newObj (.map #[] 0))))) v ab:=by
 unfold tq at he;simp only [ba.val.injEq] at he;obtain ⟨rfl,rfl⟩:=he;have dE:=s.fresh h.next (ap7 _)
 have dO:E.put (aG h.next) ⟨w.heap.size,0,0⟩ (aG h.next)=some ⟨w.heap.size,0,0⟩:=by unfold Env.put;rw [aqf rfl]
 refine ⟨.map (some w.heap.size),{w with heap:=w.heap.push (.map #[] 0)},_,?_,Env.nk (p:=⟨w.heap.size,0,0⟩) dE,?_,s.alloc 0 ?_⟩
 . simp only [Sem.run_bind,run_newObj,Result.andThen_ok,Sem.run_pure]
 . simp only [Rel];exact ⟨_,dO,rfl⟩
 . exact ⟨_,#[],dO,s.frame.size,by simp,rfl⟩
theorem ajq {aC:Fr} {E:Env} {h ab:ag} {w:World} (s:bc aC E h w) {t:TypeId} {x:Option V} {X:Option Value} {v:V} (ao:iu E x X) (he:zA P t x h=.val v ab):c_ aC P E w (Instr.makeMap t X) v ab:=by
 unfold zA at he;cases aK:bf P t with
 | none=>rw [aK] at he;cases he
 | some aS=>
   rw [aK] at he;simp only at he;have hu:=fJ aK;cases ak:Nat.beq (fe aS.bk) 3 with
   | false=>rw [ak] at he;cases he
   | true=>
     rw [ak] at he;simp only [ap8] at he;cases x with
     | none=>
       have:X=none:=by cases X with | none=>rfl | some _=>simp [iu] at ao
       subst this;simp only [r5] at he;have:=Us (P:=P) s he;exact this
     | some u=>
       simp only [r5] at he;obtain ⟨cN,n,rfl,aa⟩:=tw he;obtain ⟨Y,rfl,fG⟩:∃Y,X=some Y/\Rel E (.int cN n) Y:=by
        cases X with
        | none=>simp [iu] at ao
        | some Y=>simp only [iu] at ao;obtain ⟨aos,aa,ae⟩:=ao;cases aa;exact ⟨_,rfl,ae⟩
       have:=fG.jr;subst this;obtain ⟨Z,w',az,al,au⟩:=Us (P:=P) s aa;refine ⟨Z,w',az,?_,au⟩;cases bZ:aS.bk<;>rw [bZ] at ak<;>simp [fe] at ak;have hu:=hu w;rw [bZ] at hu;simp only [Instr.makeMap,Sem.run_bind,hu,Result.andThen_ok,asInt,Sem.run_pure];exact al
theorem ai3 {aC:Fr} {E:Env} {h ab:ag} {w:World} (s:bc aC E h w) {t:TypeId} {aS:ov} (aK:bf P t=some aS) (hm:uX aS.bk=true) {x v:V} {X:Value} (ao:Rel E x X) (ty:TypeId) (rest:List TypeId)
 (he:xc [x] h=.val v ab):c_ aC P E w (Builtin.len_ (t::rest).toArray ty #[X]) v ab:=by
 simp only [xc] at he;cases aO:pO h x with
 | none=>rw [aO] at he;cases he
 | some es=>
   rw [aO] at he;simp only [ba.val.injEq] at he;obtain ⟨rfl,rfl⟩:=he;have hu:=fJ aK w;cases bZ:aS.bk<;>rw [bZ] at hm<;>simp [uX] at hm;rw [bZ] at hu;rcases K4 (P:=P) s aO ao with ⟨rfl,rfl⟩ | ⟨aU,a,clock,rfl,eV,BV⟩
   . refine c_.plain (Z:=goInt 0) s ?_ (by simp [Rel,goInt]);simp [Builtin.len_,hu]
   . have hlen:∀(ms:List ca) (l:List MapEntry),dr E ms l->l.length=ms.length:=by
      intro ms
      induction ms with
      | nil=>intro l h;simp only [dr] at h;subst h;rfl
      | cons m ms bd=>intro l h;obtain ⟨e,es,rfl,_,_,_,bw⟩:=h;simp [bd _ bw]
     refine c_.plain (Z:=goInt a.size) s ?_ ?_
     . simp [Builtin.len_,hu,eV]
     . have:=hlen _ _ BV;simp only [Array.length_toList] at this;simp [Rel,goInt,this]
end
section
variable {P:Program}
theorem Ro {E:Env} {v:V} {Y:Value} (bz:Rel E v Y) {n:Nat}:∀(es:List ca) (l:List MapEntry) (r:List ca),ps n v es=some r->dr E es l->
 ∃j,l.findIdx? (fun e=>(e.born:Int) == (n:Int))=some j/\dr E r (l.modify j fun e=>{e with val:=Y})
 | [],l,r,h,aD=>by cases h
 | m::ms,l,r,h,aD=>by
   obtain ⟨e,es,rfl,aa,ae,aM,bw⟩:=aD;simp only [ps] at h;cases ak:Nat.beq m.born n with
   | true=>
     rw [ak] at h;simp only [ap8,ap3] at h;subst h;have aW:=aqZ ak;refine ⟨0,by simp [List.findIdx?_cons,aM,aW],?_⟩;exact ⟨_,es,rfl,aa,bz,aM,bw⟩
   | false=>
     rw [ak] at h;simp only [aqe] at h;cases aF:ps n v ms with
     | none=>rw [aF] at h;cases h
     | some bb=>
       rw [aF] at h;simp only [ap3] at h;subst h;obtain ⟨j,g1,g2⟩:=Ro bz ms es bb aF bw;have cK:¬((e.born:Int) == (n:Int))=true:=by
        rw [aM];intro ar;have oI:(m.born:Int)=(n:Int):=by simpa using ar
        have afe:m.born=n:=by omega
        rw [afe,ar5] at ak;cases ak
       refine ⟨j+1,by simp only [List.findIdx?_cons,cK];simp [g1],⟨e,_,by simp [List.modify],aa,ae,aM,g2⟩⟩
theorem ab7 {aC:Fr} {E:Env} {h ab:ag} {w:World} (s:bc aC E h w) {t:TypeId} {x st v:V} {X S Y:Value} (ao:Rel E x X) (cH:Rel E st S) (bz:Rel E v Y) (he:rA h x st v=some ab):
 ∃w',(Instr.entryStore t X S Y).run P w=.ok () w'/\bc aC E ab w':=by
 unfold rA at he
 split at he
 case h_2=>cases he
 rename_i b
 split at he
 case h_2=>cases he
 rename_i cN m
 split at he
 case h_2=>cases he
 rename_i n;simp only [Rel] at ao cH;obtain ⟨p,ai,rfl⟩:=ao;subst cH;have ak:=s.at ai;cases aL:h.get b<;>rw [aL] at he<;>simp only [b8.hU] at he<;>try (cases he;done)
 rename_i es clock;rw [aL] at ak;obtain ⟨q,a,aa,cJ,aM,bw⟩:=ak;rw [ai] at aa;cases aa;cases aF:ps n v es with
 | none=>rw [aF] at he;cases he
 | some r=>
   rw [aF] at he;simp only [ap3] at he;subst he;obtain ⟨j,g1,g2⟩:=Ro bz es a.toList r aF bw;have eV:(getObj p.a').run P w=.ok (.map a clock) w:=by simp only [getObj,Sem.run,aM]
   have k7:=(ap5.1 aM).1;have ES:a.findIdx? (fun e=>(e.born:Int) == (n:Int))=some j:=by rw [<-g1];cases a with | mk oM=>simp
   have bp:(asInt (.int cN (Int.ofNat n))).run P w=.ok (n:Int) w:=by simp [asInt,asIntOf]
   refine ⟨{w with heap:=w.heap.setIfInBounds p.a' (.map (a.modify j fun e=>{e with val:=Y}) clock)},?_,s.set (p:=p) (by rw [aL];rfl) ai cJ (by simp) (fun j bG=>?_) rfl rfl rfl (fun _ _ _ e=>by cases e) ?_⟩
   . simp only [Instr.entryStore,Sem.run_bind,eV,Result.andThen_ok,bp,ES,setObj,Sem.run,aM]
   . simp only [aqo];rw [aqa (fun e=>bG e.symm)]
   . exact ⟨p,a.modify j fun e=>{e with val:=Y},ai,cJ,by simp [k7],by rw [Array.toList_modify];exact g2⟩
theorem Rr {w:World} {E:Env} {dc:TypeId} {e:dL} (jh:x6 P w E dc e) {k:V} {K:Value} (aA:Rel E k K):∀(es:List ca) (l:List MapEntry) (r:Option ca) (i:Nat),oz e k es=some r->dr E es l->
 (r=none->(Instr.findAsking dc K l i).run P w=.ok none w)/\
 (∀m,r=some m->∃j dC,(Instr.findAsking dc K l i).run P w=.ok (some (i+j,dC.val)) w/\l[j]? =some dC/\dC.key=K/\Rel E m.v dC.val/\dC.born=m.born/\Instr.sameBits 10000 K K=true/\dr E es (l.modify j fun dC=>{dC with key:=K}))
 | [],l,r,i,h,aD=>by simp only [dr] at aD;subst aD;simp only [oz,ap3] at h;subst h;exact ⟨fun _=>rfl,fun m hm=>by cases hm⟩
 | m::ms,l,r,i,h,aD=>by
   obtain ⟨dC,es,rfl,aa,ae,aM,bw⟩:=aD;simp only [oz] at h;cases aO:e.run k m.k with
   | none=>rw [aO] at h;cases h
   | some b=>
     rw [aO] at h;simp only at h;obtain ⟨al,au⟩:=jh _ _ _ _ _ aO aA aa;cases b with
     | true=>
       simp only [ap8,ap3] at h;subst h;obtain ⟨aJ,bE⟩:=au rfl;refine ⟨fun h=>(by cases h),fun dd hm=>?_⟩;cases hm;exact ⟨0,dC,by simp [Instr.findAsking,al],rfl,aJ,ae,aM,bE,⟨_,es,rfl,by rw [<-aJ];exact aa,ae,aM,bw⟩⟩
     | false=>
       simp only [aqe] at h;obtain ⟨g1,g2⟩:=Rr jh aA ms es r (i+1) h bw;refine ⟨fun h=>by simp [Instr.findAsking,al,g1 h],fun dd hm=>?_⟩;obtain ⟨j,ab6,bC,a2,a3,a4,a5,ka,HR⟩:=g2 dd hm;exact ⟨j+1,ab6,by simp [Instr.findAsking,al,bC];omega,by simpa using a2,a3,a4,a5,ka,⟨dC,_,rfl,aa,ae,aM,HR⟩⟩
theorem Ue {aC:Fr} {E:Env} {h ab:ag} {w:World} (s:bc aC E h w) {t dc kW:TypeId} (hu:(underlying t).run P w=.ok (.map dc kW) w) {e:dL} {z:V} {Z:Value} (bl:(zeroValue kW).run P w=.ok Z w) (nd:Rel E z Z)
 {x k v:V} {X K:Value} (ao:Rel E x X) (aA:Rel E k K) (ask:As P w E dc e K) (he:tl e z h x k=some (v,ab)):c_ aC P E w (Instr.mapEntry t X K) v ab:=by
 unfold tl at he
 split at he
 case h_2=>cases he
 rename_i b;simp only [Rel] at ao;obtain ⟨p,ai,rfl⟩:=ao;have ak:=s.at ai;cases aL:h.get b<;>rw [aL] at he<;>simp only [b8.hU] at he<;>try (cases he;done)
 rename_i es clock;rw [aL] at ak;obtain ⟨q,a,aa,cJ,aM,bw⟩:=ak;rw [ai] at aa;cases aa;have eV:(getObj p.a').run P w=.ok (.map a clock) w:=by simp only [getObj,Sem.run,aM]
 have kB:=ask.check false;have k7:=(ap5.1 aM).1;have Bg:∀(fg:List ca) (bn:Array MapEntry) (fT:Nat),dr E fg bn.toList->
  ∃w',(setObj p.a' (.map bn fT)).run P w=.ok () w'/\bc aC E (h.set b (.mp fg fT)) w':=by
  intro fg bn fT hm;refine ⟨{w with heap:=w.heap.setIfInBounds p.a' (.map bn fT)},by simp only [setObj,Sem.run,aM],s.set (p:=p) (by rw [aL];rfl) ai cJ (by simp) (fun j bG=>?_) rfl rfl rfl (fun _ _ _ e=>by cases e) ?_⟩
  . simp only [aqo];rw [aqa (fun e=>bG e.symm)]
  . exact ⟨p,bn,ai,cJ,by simp [k7],hm⟩
 cases aF:oz e k es with
 | none=>rw [aF] at he;cases he
 | some r=>
   rw [aF] at he;simp only at he;obtain ⟨g1,g2⟩:=Rr ask.eq aA es a.toList r 0 aF bw;cases r with
   | none=>
     simp only [ap3,aq9] at he;obtain ⟨rfl,rfl⟩:=he;have bC:=ask.find (g1 rfl);obtain ⟨w',d1,d2⟩:=Bg (es++[⟨k,z,clock⟩]) (a.push ⟨K,Z,clock⟩) (clock+1) (by
      have:∀(es:List ca) (l:List MapEntry),dr E es l->dr E (es++[⟨k,z,clock⟩]) (l++[⟨K,Z,clock⟩]):=by
       intro es
       induction es with
       | nil=>intro l aw;simp only [dr] at aw;subst aw;exact ⟨_,_,rfl,aA,nd,rfl,rfl⟩
       | cons m ms bd=>intro l aw;obtain ⟨dC,fg,rfl,bM,b1,dR,gD⟩:=aw;exact ⟨dC,_,rfl,bM,b1,dR,bd _ gD⟩
      simpa using this es a.toList bw)
     refine ⟨.tuple #[Z,goInt clock],w',E,?_,Env.le.refl E,?_,d2⟩
     . simp only [Instr.mapEntry,Sem.run_bind,hu,Result.andThen_ok,eV,kB,bC,bl,d1,Sem.run_pure]
     . simp only [Rel,bj];exact ⟨_,rfl,_,_,rfl,nd,_,_,rfl,rfl,rfl⟩
   | some m=>
     simp only [ap3,aq9] at he;obtain ⟨rfl,rfl⟩:=he;obtain ⟨j,dC,bC,a2,a3,a4,a5,ka,HR⟩:=g2 m rfl;rw [aqP] at bC;have bM:=ask.find bC;have ax:a[j]? =some dC:=by simpa using a2
     obtain ⟨w',d1,d2⟩:=Bg es (a.modify j fun dC=>{dC with key:=K}) clock (by rw [Array.toList_modify];exact HR);refine ⟨.tuple #[dC.val,goInt dC.born],w',E,?_,Env.le.refl E,?_,d2⟩
     . simp only [Instr.mapEntry,Sem.run_bind,hu,Result.andThen_ok,eV,kB,bM,ax,Option.map,Option.getD,a3,Instr.keyThatStays,ka,aqB,Sem.run_pure,d1]
     . simp only [Rel,bj];exact ⟨_,rfl,_,_,rfl,a4,_,_,rfl,by rw [a5];rfl,rfl⟩
theorem aju {aC:Fr} {E:Env} {h ab:ag} {w:World} (s:bc aC E h w) {t:TypeId} {x k v:V} {X K:Value} (ao:Rel E x X) (aA:Rel E k K) (he:(F1 P t).run x k h=.val v ab):c_ aC P E w (Instr.mapEntry t X K) v ab:=by
 unfold F1 at he;cases aK:bf P t with
 | none=>rw [aK] at he;cases he
 | some aS=>
   rw [aK] at he;simp only at he;have hu:=fJ aK w;cases bZ:aS.bk<;>rw [bZ] at he<;>simp only at he<;>try (cases he;done)
   rename_i dc kW;rw [bZ] at hu;cases het:bf P kW with
   | none=>rw [het] at he;cases he
   | some bh=>
     rw [het] at he;simp only at he;cases bl:bh.zero with
     | none=>rw [bl] at he;cases he
     | some z=>
       rw [bl] at he;simp only at he;obtain ⟨vx,nV,nd,_⟩:=z_ (P:=P) het bl E w;cases qC:jM P dc with
       | true=>
         rw [qC] at he;simp only [ap8,Ey] at he;cases hm:tl ⟨j5 h⟩ z h x k with
         | none=>rw [hm] at he;cases he
         | some r=>
           rw [hm] at he;simp only [ba.val.injEq] at he;obtain ⟨rfl,rfl⟩:=he;exact Ue s hu nV nd ao aA (HZ s qC K) hm
       | false=>
         rw [qC] at he;simp only [aqe] at he;cases cH:mI P dc with
         | false=>rw [cH] at he;cases he
         | true=>
           rw [cH] at he;simp only [ap8,yr] at he;cases aL:lW P dc k with
           | false=>rw [aL] at he;cases he
           | true=>
             rw [aL] at he;simp only [ap8] at he;cases hm:tl (structEq P dc) z h x k with
             | none=>rw [hm] at he;cases he
             | some r=>
               rw [hm] at he;simp only [ba.val.injEq] at he;obtain ⟨rfl,rfl⟩:=he;exact Ue s hu nV nd ao aA (H0 cH aL aA) hm
end
section
variable {P:Program}
theorem Bv (n:Nat):∀(l:List Nat),qo l n=true↔n ∈ l
 | []=>by simp [qo]
 | x::xs=>by
   simp only [qo];cases ak:Nat.beq x n with
   | true=>have:=aqZ ak;subst this;simp
   | false=>
     have cK:x≠n:=fun e=>by subst e;rw [ar5] at ak;cases ak
     simp [Bv n xs,Ne.symm cK]
theorem adS {a:Array Nat} {seen:List Nat} (h:a.toList=seen.reverse) (n:Nat):a.contains n=qo seen n:=by rw [aqX,Bv,Array.contains_iff_mem,<-arM,h,List.mem_reverse]
theorem KX {E:Env} {a:Array Nat} {seen:List Nat} (h:a.toList=seen.reverse):∀(ms:List ca) (l:List MapEntry),dr E ms l->dr E (leftOf seen ms) (l.filter fun e=>!a.contains e.born)
 | [],l,aD=>by simp only [dr] at aD;subst aD;rfl
 | m::ms,l,aD=>by
   obtain ⟨e,es,rfl,aa,ae,aM,bw⟩:=aD;have bd:=KX h ms es bw;have ar:a.contains e.born=qo seen m.born:=by rw [adS h,aM]
   cases ak:qo seen m.born with
   | true=>
     rw [ak] at ar;rw [List.filter_cons_of_neg (by rw [ar];decide)];simp only [leftOf,ak,ap8];exact bd
   | false=>
     rw [ak] at ar;rw [List.filter_cons_of_pos (by rw [ar];decide)];simp only [leftOf,ak,aqe];exact ⟨e,_,rfl,aa,ae,aM,bd⟩
theorem HT {E:Env} {last:Nat}:∀(ms:List ca) (l:List MapEntry),dr E ms l->l.all (fun e=>decide (e.born>=last))=rl last ms
 | [],l,aD=>by simp only [dr] at aD;subst aD;rfl
 | m::ms,l,aD=>by
   obtain ⟨e,es,rfl,aa,ae,aM,bw⟩:=aD;simp only [rl,arz,HT ms es bw,aM];cases ak:Nat.ble last m.born with
   | true=>rw [aqj] at ak;simp [ak]
   | false=>
     have:¬last<=m.born:=by rw [<-aqj,ak];simp
     simp [this]
theorem N7 {E:Env} {n:Nat}:∀(ms:List ca) (l:List MapEntry) (m:ca),dr E ms l->sK n ms=some m->∃e,l.find? (fun e=>e.born == n)=some e/\Rel E m.k e.key/\Rel E m.v e.val
 | [],l,m,aD,h=>by cases h
 | x::xs,l,m,aD,h=>by
   obtain ⟨e,es,rfl,aa,ae,aM,bw⟩:=aD;simp only [sK] at h;cases ak:Nat.beq x.born n with
   | true=>
     rw [ak] at h;simp only [ap8,ap3] at h;subst h;have:=aqZ ak;exact ⟨e,by simp [List.find?_cons,aM,this],aa,ae⟩
   | false=>
     rw [ak] at h;simp only [aqe] at h;obtain ⟨c7,g1,g2⟩:=N7 xs es m bw h;have cK:x.born≠n:=fun e=>by rw [e,ar5] at ak;cases ak
     exact ⟨c7,by simp [List.find?_cons,aM,cK,g1],g2⟩
theorem Lr {k:b8} {f:List ca->Nat->ba} {v:V} {ab:ag} (h:k.hU .fail f=.val v ab):∃es clock,k=.mp es clock/\f es clock=.val v ab:=by
 cases k<;>simp only [b8.hU] at h<;>first
  | (cases h;done)
  | exact ⟨_,_,rfl,h⟩
theorem UR {v:V} {f:aQ->Nat->ba} {r:V} {ab:ag} (h:v.jK .fail f=.val r ab):∃b off,v=.ptr b off/\f b off=.val r ab:=by
 cases v<;>simp only [V.jK] at h<;>first
  | (cases h;done)
  | exact ⟨_,_,rfl,h⟩
theorem alJ {aC:Fr} {E:Env} {h ab:ag} {w:World} (s:bc aC E h w) {t dc kW:TypeId} (hu:(underlying t).run P w=.ok (.map dc kW) w) {x v:V} {X:Value} (ao:Rel E x X) (he:rangeMap x h=.val v ab):c_ aC P E w (Instr.range t X) v ab:=by
 have dE:=s.fresh h.next (ap7 _)
 have dO:E.put (aG h.next) ⟨w.heap.size,0,0⟩ (aG h.next)=some ⟨w.heap.size,0,0⟩:=by unfold Env.put;rw [aqf rfl]
 unfold rangeMap at he
 split at he
 . simp only [ba.val.injEq] at he;obtain ⟨rfl,rfl⟩:=he;simp only [Rel] at ao;subst ao;refine ⟨.pointer (some ⟨w.heap.size,0,none⟩),{w with heap:=w.heap.push (.mapIter none 0 #[] 0)},_,?_,Env.nk (p:=⟨w.heap.size,0,0⟩) dE,?_,s.alloc 0 ?_⟩
   . simp only [Instr.range,Sem.run_bind,hu,Result.andThen_ok,Sem.run_pure,run_newObj]
   . simp only [Rel];exact ⟨_,dO,by simp⟩
   . exact ⟨_,none,#[],dO,s.frame.size,rfl,by simp,rfl,rfl⟩
 . rename_i c;obtain ⟨es,clock,aL,he⟩:=Lr he;simp only [ba.val.injEq] at he;obtain ⟨rfl,rfl⟩:=he;simp only [Rel] at ao;obtain ⟨p,ai,rfl⟩:=ao;have ak:=s.at ai;rw [aL] at ak;obtain ⟨q,a,aa,cJ,aM,bw⟩:=ak;rw [ai] at aa;cases aa;have eV:(getObj p.a').run P w=.ok (.map a clock) w:=by simp only [getObj,Sem.run,aM]
   have hle:E.le (E.put (aG h.next) ⟨w.heap.size,0,0⟩):=Env.nk dE;refine ⟨.pointer (some ⟨w.heap.size,0,none⟩),{w with heap:=w.heap.push (.mapIter (some p.a') clock #[] clock)},_,?_,hle,?_,s.alloc 0 ?_⟩
   . simp only [Instr.range,Sem.run_bind,hu,Result.andThen_ok,Sem.run_pure,eV,run_newObj]
   . simp only [Rel];exact ⟨_,dO,by simp⟩
   . exact ⟨_,some p.a',#[],dO,s.frame.size,rfl,by simp,rfl,p,hle _ _ ai,rfl⟩
 . cases he
theorem ajS {aC:Fr} {E:Env} {h ab:ag} {w:World} (s:bc aC E h w) {x v:V} {X:Value} {ty:TypeId} (ao:Rel E x X) (he:gY x h=.val v ab):c_ aC P E w (Instr.next X false ty) v ab:=by
 unfold gY at he;obtain ⟨b,off,rfl,aa⟩:=UR he;clear he;have ak:=s.at (p:=_) (by simp only [Rel] at ao;exact ao.choose_spec.1);cases aL:h.get b<;>rw [aL] at aa<;>simp only at aa<;>try (cases aa;done)
 rename_i src since seen last;rw [aL] at ak;cases a1:Nat.beq off 0 with
 | false=>rw [a1] at aa;cases aa
 | true=>
 rw [a1] at aa;simp only [ap8] at aa;have a1:=aqZ a1;subst a1;obtain ⟨p,m,a,ai,cJ,mm,a_,bp,jq⟩:=ak;simp only [Rel] at ao;obtain ⟨q,ar,rfl⟩:=ao;rw [ai] at ar;cases ar;have eV:(getObj p.a').run P w=.ok (.mapIter m since a last) w:=by simp only [getObj,Sem.run,a_]
 have over:Rel E (.tuple [.bool false]) (.tuple #[.bool false]):=by simp only [Rel,bj];exact ⟨_,rfl,_,_,rfl,rfl,rfl⟩
 cases src with
 | none=>
   simp only [uh] at jq;subst jq;simp only [ba.val.injEq] at aa;obtain ⟨rfl,rfl⟩:=aa;refine c_.plain (Z:=.tuple #[.bool false]) s ?_ over;simp only [Instr.next,mm,Sem.run_bind,eV,Result.andThen_ok,Sem.run_pure]
 | some c=>
   simp only [uh] at jq;obtain ⟨pR,m',rfl⟩:=jq;simp only at aa;obtain ⟨es,clock,BH,aa⟩:=Lr aa;have qq:=s.at m';rw [BH] at qq;obtain ⟨q,iI,g1,_,g3,g4⟩:=qq;rw [m'] at g1;cases g1;have wL:(getObj pR.a').run P w=.ok (.map iI clock) w:=by simp only [getObj,Sem.run,g3]
   cases av:(!seen.isEmpty&&(!es.isEmpty&&rl last es)) with
   | true=>rw [av] at aa;cases aa
   | false=>
     rw [av] at aa;simp only [aqe] at aa;have ax:a.isEmpty=seen.isEmpty:=by
      have:a.toList.isEmpty=seen.reverse.isEmpty:=by rw [bp]
      simpa using this
     have aH:iI.isEmpty=es.isEmpty:=by
      cases es with
      | nil=>simp only [dr] at g4;have:iI=#[]:=ar2.1 g4
             simp [this]
      | cons y cy=>obtain ⟨e,l,aw,_⟩:=g4;have:iI.toList.isEmpty=false:=by rw [aw];rfl
                   simpa using this
     have bA:iI.all (fun e=>decide (e.born>=last))=rl last es:=by rw [<-HT es _ g4,Array.all_toList]
     have BA:(!a.isEmpty&&!iI.isEmpty&&iI.all (fun e=>decide (e.born>=last)))=false:=by rw [ax,aH,bA,Bool.and_assoc];exact av
     have qx:=KX (E:=E) bp es _ g4;have BF:(iI.filter fun e=>!a.contains e.born).toList=iI.toList.filter fun e=>!a.contains e.born:=by simp
     cases aw:leftOf seen es with
     | nil=>
       rw [aw] at aa qx;simp only [Le,ba.val.injEq] at aa;obtain ⟨rfl,rfl⟩:=aa;simp only [dr] at qx;have ji:(iI.filter fun e=>!a.contains e.born)=#[]:=by apply ar2.1;rw [BF,qx]
       refine c_.plain (Z:=.tuple #[.bool false]) s ?_ over;simp only [Instr.next,mm,Sem.run_bind,eV,Result.andThen_ok,wL,BA,aqd,aqD,ji,Sem.run_pure];simp [choose,Sem.run,Question.forced]
     | cons y cy=>
       rw [aw] at aa qx;cases cy with
       | cons _ _=>cases aa
       | nil=>
         simp only [Le] at aa;cases aN:Nat.blt y.born since with
         | false=>rw [aN] at aa;cases aa
         | true=>
           rw [aN] at aa;simp only [ap8,ba.val.injEq] at aa;obtain ⟨rfl,rfl⟩:=aa;rw [aqA] at aN;obtain ⟨e,r,aD,cd,cn,fO,gw⟩:=qx;simp only [dr] at gw;subst gw;have ji:(iI.filter fun e=>!a.contains e.born)=#[e]:=by apply ar2.1;rw [BF,aD]
           rw [<-fO] at aN ⊢
           let b_:Obj:=.mapIter (some pR.a') since (a.push e.born) clock
           let w':World:={w with heap:=w.heap.setIfInBounds p.a' b_}
           have k7:=(ap5.1 a_).1;have qG:(setObj p.a' b_).run P w=.ok () w':=by simp only [setObj,Sem.run,a_];rfl
           have qz:¬since<=e.born:=by omega
           refine ⟨.tuple #[.bool true,e.key,e.val],w',E,?_,Env.le.refl E,?_,s.set (p:=p) (by rw [aL];rfl) ai cJ (by simp [w']) (fun j bG=>?_) rfl rfl rfl (fun _ _ _ e=>by cases e) ?_⟩
           . simp only [Instr.next,mm,Sem.run_bind,eV,Result.andThen_ok,wL,BA,aqd,aqD,ji,Sem.run_pure];have aa:(#[e]:Array MapEntry).filter (fun x=>decide (x.born<since))=#[e]:=by simp [aN]
             have ae:(#[e]:Array MapEntry).filter (fun x=>decide (x.born>=since))=#[]:=by simp [aN]
             have lQ:(choose (.mapNext 1)).run P w=.ok 0 w:=by simp [choose,Sem.run,Question.forced]
             simp only [aa,ae];simp [lQ];change ((setObj p.a' b_).run P w).andThen _=_;rw [qG];rfl
           . simp only [Rel,bj];exact ⟨_,rfl,_,_,rfl,rfl,_,_,rfl,cd,_,_,rfl,cn,rfl⟩
           . simp only [w',aqo];rw [aqa (fun e=>bG e.symm)]
           . exact ⟨p,some pR.a',a.push e.born,ai,cJ,mm,by simp [w',k7,b_],by simp [bp],pR,m',rfl⟩
theorem ab8 {aC:Fr} {E:Env} {h ab:ag} {w:World} (s:bc aC E h w) {x v:V} {X:Value} (ao:Rel E x X) (he:ux x h=.val v ab):c_ aC P E w (Instr.entry X) v ab:=by
 unfold ux at he;obtain ⟨b,off,rfl,aa⟩:=UR he;clear he;have ak:=s.at (p:=_) (by simp only [Rel] at ao;exact ao.choose_spec.1);cases aL:h.get b<;>rw [aL] at aa<;>simp only at aa<;>try (cases aa;done)
 rename_i src since seen last;rw [aL] at ak;cases a1:Nat.beq off 0 with
 | false=>rw [a1] at aa;cases aa
 | true=>
 rw [a1] at aa;simp only [ap8] at aa;have a1:=aqZ a1;subst a1;obtain ⟨p,m,a,ai,cJ,mm,a_,bp,jq⟩:=ak;simp only [Rel] at ao;obtain ⟨q,ar,rfl⟩:=ao;rw [ai] at ar;cases ar;have eV:(getObj p.a').run P w=.ok (.mapIter m since a last) w:=by simp only [getObj,Sem.run,a_]
 cases src with
 | none=>cases aa
 | some c=>
   simp only [uh] at jq;obtain ⟨pR,m',rfl⟩:=jq;simp only at aa;cases seen with
   | nil=>cases aa
   | cons n apr=>
   simp only at aa;obtain ⟨es,clock,BH,aa⟩:=Lr aa;have qq:=s.at m';rw [BH] at qq;obtain ⟨q,iI,g1,_,g3,g4⟩:=qq;rw [m'] at g1;cases g1;have wL:(getObj pR.a').run P w=.ok (.map iI clock) w:=by simp only [getObj,Sem.run,g3]
   rename_i adt _;clear adt;cases e2:Nat.beq clock last with
   | false=>rw [e2] at aa;cases aa
   | true=>
     rw [e2] at aa;simp only [ap8] at aa;have:=aqZ e2;subst this;cases Jr:sK n es with
     | none=>rw [Jr] at aa;cases aa
     | some y=>
       rw [Jr] at aa;simp only [ba.val.injEq] at aa;obtain ⟨rfl,rfl⟩:=aa;obtain ⟨e,f1,f2,f3⟩:=N7 es _ y g4 Jr;have adX:a.back? =some n:=by
        have:a.toList.getLast? =some n:=by rw [bp];simp
        simpa using this
       have uJ:iI.find? (fun e=>e.born == n)=some e:=by rw [<-f1];simp
       refine c_.plain (Z:=.tuple #[e.key,e.val]) s ?_ ?_
       . simp only [Instr.entry,mm,Sem.run_bind,eV,Result.andThen_ok,adX,wL,bne_self_eq_false,aqd,aqD,uJ,Sem.run_pure]
       . simp only [Rel,bj];exact ⟨_,rfl,_,_,rfl,f2,_,_,rfl,f3,rfl⟩
end
section
variable {P:Program}
theorem YB {aC:Fr} {E:Env} {h ab:ag} {w:World} (s:bc aC E h w) {t u e:TypeId} {size:Nat} (ae9:1<=size) {x v:V} {X Y:Value} {ty:TypeId} {n:Nat} {new:List V} {l:List Value}
 (aw:bj E new l) (iU:new.length=n * size) (fz:n<=top)
 (ez:∀(w':World) (A:Option Addr) (c4 fK:Nat),c4+n<=fK->(∀a,A=some a->(storeCells (a.add (c4 * size)) l).run P w=.ok () w')->(A=none->w'=w)->
   (Builtin.append_ #[t,u] ty #[.slice A c4 fK,Y]).run P w=.ok (.slice A (c4+n) fK) w')
 (qB:∀(A:Option Addr) (c4 fK:Nat) (bY:List Value),(∀w':World,w'.heap=w.heap->(Builtin.firstCells size c4 (.slice A c4 fK)).run P w'=.ok bY.toArray w')->¬c4+n<=fK->c4+n<=top->bY.length=c4 * size->l.length=n * size->
   ∃cap rest w',c4+n<=cap/\cap * size<=((bY++l).toArray++rest).size/\
   (Builtin.append_ #[t,u] ty #[.slice A c4 fK,Y]).run P w=.ok (.slice (some ⟨w.heap.size,0,none⟩) (c4+n) cap) w'/\
   w'.heap=w.heap.push (.cells ((bY++l).toArray++rest) e)/\w'.os=w.os/\w'.tape=w.tape/\w'.output=w.output)
 (he:HY size n new x h=.val v ab) (ao:Rel E x X):c_ aC P E w (Builtin.append_ #[t,u] ty #[X,Y]) v ab:=by
 have qw:l.length=n * size:=by rw [aw.length,iU]
 unfold HY at he;cases x<;>simp only at he<;>try (cases he;done)
 . -- a slice of known capacity
   rename_i b off len cap;simp only [Rel] at ao;obtain ⟨p,ai,s5,rfl⟩:=ao;simp only [yb] at he;cases fb:Nat.ble (len+n) cap with
   | true=>
     rw [fb] at he;simp only [ap8] at he;rw [aqj] at fb;cases lR:lay h b (off+len * size) new with
     | none=>rw [lR] at he;cases he
     | some aa=>
     rw [lR] at he;simp only [ba.val.injEq] at he;obtain ⟨rfl,rfl⟩:=he;obtain ⟨w',cH,jo⟩:=zr (P:=P) s aw lR ai;refine ⟨_,w',E,ez w' _ _ _ fb (fun a bp=>?_) (fun bp=>by cases bp),Env.le.refl E,?_,jo⟩
     . cases bp;rw [add_eq,ark];exact cH
     . simp only [Rel];exact ⟨p,ai,fb,rfl⟩
   | false=>
     rw [fb] at he;simp only [aqe] at he;have Kj:¬len+n<=cap:=by rw [<-aqj,fb];simp
     obtain ⟨ak,he⟩:=kv he;simp only [ap2,aqj] at ak;cases hold:pX h size b off len with
     | none=>rw [hold] at he;cases he
     | some bY=>
     rw [hold] at he;simp only at he;cases gG:l2 h (bY++new) size false with
     | none=>rw [gG] at he;cases he
     | some aa=>
     rw [gG] at he;simp only [ba.val.injEq] at he;obtain ⟨rfl,rfl⟩:=he;obtain ⟨q,bu,ar,d',mY,ih⟩:=Ah (P:=P) s ⟨p,ai⟩ hold;rw [ai] at ar;cases ar;obtain ⟨c,rest,w',cd,cn,fO,gw,kF,nY,qN⟩:=qB (some ⟨p.a',p.base+off,none⟩) (len) (cap) _
      (fun w' hw=>by simp only [Builtin.firstCells];exact ih w' hw) Kj ak.1 (by rw [d'.length,mY]) qw
     obtain ⟨az,g1,g2,g3⟩:=xh (w':=w') (b4:=(0,0)) s (d'.append aw) gG cn (.inr (ap7 _)) (fun _=>rfl) gw kF nY qN;refine ⟨_,w',az,fO,g1,?_,g3⟩;simp only [Rel];exact ⟨_,g2,by simp only;omega,by simp⟩
 . -- one that was appended to
   rename_i b off len idx;have B_:=ao;simp only [Rel] at ao;obtain ⟨p,ai,Ss,rfl⟩:=ao;simp only [ya] at he;cases jH:Nat.beq n 0 with
   | true=>
     rw [jH] at he;simp only [ap8] at he;cases he;rw [aqE] at jH;subst jH;have ke:l=[]:=by cases l with | nil=>rfl | cons _ _=>simp at qw
     subst ke;refine ⟨_,w,E,ez w _ _ _ (by omega) (fun a _=>rfl) (fun bp=>by cases bp),Env.le.refl E,?_,s⟩;simpa using B_
   | false=>
     rw [jH] at he;simp only [aqe] at he;have rK:=s.at ai;cases aL:h.get b with
     | dead=>rw [aL] at he;cases he
     | view _ _=>rw [aL] at he;cases he
     | iter _ _=>rw [aL] at he;cases he
     | mp _ _=>rw [aL] at he;cases he
     | fI _=>rw [aL] at he;cases he
     | h2=>rw [aL] at he;cases he
     | ia _=>rw [aL] at he;cases he
     | hl _ _ _ _=>rw [aL] at he;cases he
     | cells N cs cI st=>
       rw [aL] at he rK;simp only [b8.on] at he;obtain ⟨ak,he⟩:=kv he;simp only [ap2,aqj,aqE] at ak;obtain ⟨⟨JC,J_,Ka⟩,BY⟩:=ak;cases hold:pX h size b off len with
       | none=>rw [hold] at he;cases he
       | some bY=>
       rw [hold] at he;simp only at he;cases gG:l2 (h.set b .dead) (bY++new) size st with
       | none=>rw [gG] at he;cases he
       | some aa=>
       rw [gG] at he;simp only [ba.val.injEq] at he;obtain ⟨rfl,rfl⟩:=he;obtain ⟨q,bu,ar,d',mY,ih⟩:=Ah (P:=P) s ⟨p,ai⟩ hold;rw [ai] at ar;cases ar;obtain ⟨bI,q,c,el,b4,ax,cJ,a_,rO,cH,k1,bx⟩:=rK;rw [ai] at ax;cases ax;have BZ:=ae9;have k1:=k1 (by omega);rw [JC] at k1;have Ad:=s.kill ai;by_cases fb:len+n<=p.cap-idx
       . -- in place
         have aN:=(ap5.1 a_).1;have aeA:(idx+len+n) * size<=p.cap * size:=aq5 _ (by omega);have hbound:p.base+off+len * size+0+l.length<=c.size:=by
          rw [qw,BY];have:(idx+len+n) * size=idx * size+len * size+n * size:=by rw [aq_,aq_]
          omega
         have B':=GV (P:=P) aN el b4 (p.base+off+len * size) l c 0 (Gj Ka aw) hbound rO;rw [MQ a_,aro] at B';have Km:=ez (l8 w p.a' (qO c (p.base+off+len * size) l) el b4) (some ⟨p.a',p.base+off,none⟩) _ _ fb
          (fun a bp=>by cases bp;rw [add_eq];exact B') (fun bp=>by cases bp)
         unfold l2 at gG;obtain ⟨av,gG⟩:=eM gG;simp only [ap2,aqj] at av;simp only [ap3] at gG;subst gG;have dE:=s.fresh h.next (ap7 _)
         have hle:E.le (E.put (aG h.next) ⟨p.a',p.base+off,p.cap-idx⟩):=Env.nk dE;have dO:E.put (aG h.next) ⟨p.a',p.base+off,p.cap-idx⟩ (aG h.next)=some ⟨p.a',p.base+off,p.cap-idx⟩:=by unfold Env.put;rw [aqf rfl]
         refine ⟨_,_,_,Km,hle,?_,bc.add (p:=⟨p.a',p.base+off,p.cap-idx⟩) Ad (by rw [MR];exact ap7 _) (fun j _ bG=>MP _ _ _ bG) cJ (fun bR fi jm hQ heq=>?_) rfl rfl rfl (fun _ _ _ e=>by injection e with _ _ bA;omega) ?_⟩
         . simp only [Rel];exact ⟨_,dO,by simp only;omega,by simp⟩
         . rw [ag.ej] at jm;by_cases j0:b=bR
           . rw [aqf j0] at jm;cases jm
           . rw [aqa j0] at jm;exact j0 (s.inj b bR p fi (by rw [aL];rfl) jm ai hQ heq.symm)
         . have JW:(bY++new).length=(len+n) * size:=by rw [aqi,mY,iU,aq_]
           have aep:(len+n) * size=len * size+n * size:=aq_ _ _ _;refine ⟨av.1,_,_,el,b4,dO,cJ,Dd aN _ _ _,by rw [r1];exact rO,cH,fun _=>?_,?_⟩
           . rw [r1];simp only;have:idx * size + (p.cap-idx) * size=p.cap * size:=by rw [<-aq_];congr 1;omega
             omega
           . refine ⟨by rw [r1,JW,aq_];simp only;omega,fun i y aB a6=>?_⟩;rw [CU _ _ _ _ (by omega) (by omega),aqf (by omega),asq];rw [FR _ _ _ _ (by omega)] at a6;simp only at a6;by_cases cC:i<len * size
             . rw [aqa (by omega)] at a6;rw [aqq (by omega)];have eV:=ih w rfl;have Kh:=run_loadCells (P:=P) (w:=w) (off:=p.base+off) (n:=len * size) a_ (by omega);rw [Kh] at eV;simp only [Result.ok.injEq,ast] at eV;have BR:bu=(c.toList.drop (p.base+off)).take (len * size):=by
                have:=congrArg Array.toList eV;simpa using this.symm
               obtain ⟨o4,ik,aD⟩:=d'.get i bY[i] (ap4 (by omega));rw [ap4 (by omega)];rw [BR] at ik;rw [aq3 (by omega),arl] at ik;simp only [arR] at ik;rw [a6] at ik;cases ik;exact Rel.mono hle _ _ aD
             . rw [aqf (by omega)] at a6;rw [aqk (by omega)];have bA:p.base+off+i - (p.base+off+len * size)=i-bY.length:=by omega
               rw [bA] at a6;have BS:i-bY.length<new.length:=by omega
               obtain ⟨o4,ik,aD⟩:=aw.get (i-bY.length) new[i-bY.length] (ap4 BS);rw [a6] at ik;cases ik;rw [ap4 BS];exact Rel.mono hle _ _ aD
       . -- elsewhere
         obtain ⟨b6,rest,w',cd,cn,fO,gw,kF,nY,qN⟩:=qB (some ⟨p.a',p.base+off,none⟩) (len) (p.cap-idx) _
          (fun w' hw=>by simp only [Builtin.firstCells];exact ih w' hw) fb J_ (by rw [d'.length,mY]) qw
         obtain ⟨az,g1,g2,g3⟩:=xh (w':=w') (b4:=(0,0)) Ad (d'.append aw) gG cn (.inr (ap7 _)) (fun _=>rfl) gw kF nY qN;refine ⟨_,w',az,fO,g1,?_,g3⟩;simp only [Rel];exact ⟨_,g2,by simp only;omega,by simp⟩
 . -- nil
   simp only [Rel] at ao;subst ao;simp only [yd] at he;cases jH:Nat.beq n 0 with
   | true=>
     rw [jH] at he;simp only [ap8] at he;cases he;rw [aqE] at jH;subst jH;exact c_.plain s (ez w _ _ _ (by omega) (fun a bp=>by cases bp) (fun _=>rfl)) (by simp [Rel])
   | false=>
     rw [jH] at he;simp only [aqe] at he;have wX:¬n=0:=by intro e;subst e;simp at jH
     cases gG:l2 h new size false with
     | none=>rw [gG] at he;cases he
     | some aa=>
     rw [gG] at he;simp only [ba.val.injEq] at he;obtain ⟨rfl,rfl⟩:=he;obtain ⟨c,rest,w',cd,cn,fO,gw,kF,nY,qN⟩:=qB (none) (0) (0) []
      (fun w' _=>by simp [Builtin.firstCells]) (by omega) (by omega) (by simp) qw
     obtain ⟨az,g1,g2,g3⟩:=xh (w':=w') (b4:=(0,0)) s aw gG cn (.inr (ap7 _)) (fun _=>rfl) gw kF nY qN;refine ⟨_,w',az,fO,g1,?_,g3⟩;simp only [Rel];exact ⟨_,g2,by simp only;omega,by simp⟩
structure HP (P:Program) (t u e:TypeId) (size bytes:Nat) (k:IntKind) (z:Value):Prop where
 ut:∀w,(underlying t).run P w=.ok (.slice e) w
 tN:∀w,(underlying u).run P w=.ok (.int k) w
 lv:∀w,(sizeOf e).run P w=.ok size w
 Eb:∀w,∃i,(typeInfo e).run P w=.ok i w/\i.bytes=bytes
 Aq:∀w,(zeroValue e).run P w=.ok z w
 vw:z.cells.size=size
 pos:1<=size
 small:bytes<=4096
theorem W_ (c:Array Value):Builtin.zeroCells c 0=#[]:=by simp [Builtin.zeroCells]
theorem ami {t u e:TypeId} {size bytes:Nat} {k:IntKind} {z:Value} (H:HP P t u e size bytes k z) {n:Nat} (aW:n<=100000) {ty:TypeId} {w w':World} {A:Option Addr} {c4 fK:Nat} (fb:c4+n<=fK)
 (cH:∀a,A=some a->(storeCells (a.add (c4 * size)) (Builtin.zeroCells z.cells n).toList).run P w=.ok () w') (dE:A=none->w'=w):
 (Builtin.append_ #[t,u] ty #[.slice A c4 fK,.int .i64 n]).run P w=.ok (.slice A (c4+n) fK) w':=by
 have hw:IntKind.i64.wrap (n:Int)=n:=by unfold IntKind.wrap;simp [IntKind.bits,IntKind.signed];omega
 obtain ⟨i,aB,rQ⟩:=H.Eb w;have uC:¬(281474976710656 < (n:Int) * (i.bytes:Int)):=by rw [rQ];have aa:n * bytes<=100000 * 4096:=Nat.mul_le_mul aW H.small;have ae:((n * bytes:Nat):Int)=(n:Int) * (bytes:Int):=Int.natCast_mul _ _;omega
 have Fs:¬((n:Int)<0):=by omega
 have cu:size≠0:=by have:=H.pos;omega
 have bp:∀w,(asInt (.int .i64 (n:Int))).run P w=.ok (n:Int) w:=fun w=>by simp [asInt,asIntOf]
 have E4:∀w,(asInt (.int .i64 0)).run P w=.ok 0 w:=fun w=>by simp [asInt,asIntOf]
 have zm:IntKind.i64.wrap 0=0:=by decide
 cases A with
 | none=>
   have:=dE rfl;subst this;by_cases a1:n=0
   . subst a1;simp [Builtin.append_,H.ut,H.tN,H.lv,E4,aB,zm,(show c4<=fK from by omega)]
   . simp [Builtin.append_,H.ut,H.tN,H.lv,H.Aq,bp,aB,uC,hw,fb,Fs,cu,a1]
 | some a=>
   have:=cH a rfl;by_cases a1:n=0
   . subst a1;rw [W_] at this;simp [Builtin.append_,H.ut,H.tN,H.lv,E4,aB,zm,(show c4<=fK from by omega),this]
   . simp [Builtin.append_,H.ut,H.tN,H.lv,H.Aq,bp,aB,uC,hw,fb,Fs,Nat.mul_ne_zero a1 cu,this]
theorem amj {t u e:TypeId} {size bytes:Nat} {k:IntKind} {z:Value} (H:HP P t u e size bytes k z) {n:Nat} (aW:n<=100000) {ty:TypeId} {w:World} (A:Option Addr) (c4 fK:Nat) (bY:List Value)
 (hold:∀w':World,w'.heap=w.heap->(Builtin.firstCells size c4 (.slice A c4 fK)).run P w'=.ok bY.toArray w') (fb:¬c4+n<=fK) (B9:c4+n<=top) (aY:bY.length=c4 * size) (aw:(Builtin.zeroCells z.cells n).toList.length=n * size):
 ∃cap rest w',c4+n<=cap/\cap * size<=((bY++(Builtin.zeroCells z.cells n).toList).toArray++rest).size/\
  (Builtin.append_ #[t,u] ty #[.slice A c4 fK,.int .i64 n]).run P w=.ok (.slice (some ⟨w.heap.size,0,none⟩) (c4+n) cap) w'/\
  w'.heap=w.heap.push (.cells ((bY++(Builtin.zeroCells z.cells n).toList).toArray++rest) e)/\w'.os=w.os/\w'.tape=w.tape/\w'.output=w.output:=by
 have hw:IntKind.i64.wrap (n:Int)=n:=by simp only [IntKind.wrap,IntKind.bits,IntKind.signed];simp;omega
 obtain ⟨i,aB,rQ⟩:=H.Eb w;have k9:P.info? e=some i:=by
  simp only [typeInfo,Sem.run_bind,run_program,Result.andThen_ok] at aB;cases ar:P.info? e with
  | none=>rw [ar] at aB;simp at aB
  | some j=>rw [ar] at aB;simp at aB;rw [aB]
 have s4:∀w',(typeInfo e).run P w'=.ok i w':=fun w'=>z' k9 w';have afV:¬(281474976710656 < (n:Int) * (i.bytes:Int)):=by rw [rQ];have aa:n * bytes<=100000 * 4096:=Nat.mul_le_mul aW H.small;have ae:((n * bytes:Nat):Int)=(n:Int) * (bytes:Int):=Int.natCast_mul _ _;omega
 have uC:¬(281474976710656<Builtin.nextslicecap (c4+n) fK * i.bytes):=by
  have aa:fK<c4+n:=by omega
  have:=growslice_fits (bytes:=i.bytes) aa (by rw [rQ];have ae:(c4+n) * bytes<=top * 4096:=Nat.mul_le_mul B9 H.small;unfold top at ae;omega);omega
 have jj:¬(9223372036854775807 < ((c4:Int) + (n:Int))):=by unfold top at B9;omega
 have Fs:¬((n:Int)<0):=by omega
 have cu:size≠0:=by have:=H.pos;omega
 have bp:∀w,(asInt (.int .i64 (n:Int))).run P w=.ok (n:Int) w:=fun w=>by simp [asInt,asIntOf]
 have E4:∀w,(asInt (.int .i64 0)).run P w=.ok 0 w:=fun w=>by simp [asInt,asIntOf]
 have zm:IntKind.i64.wrap 0=0:=by decide
 let q:Question:=.appendCap (c4+n) fK e
 let cap:=q.cut (w.tape w.drawn q)
 have k1:c4+n<=cap:=by show c4+n<=(c4+n)+_;omega
 refine ⟨cap,Builtin.zeroCells z.cells (cap - (c4+n)),w.drew.alloc (.cells ((bY++(Builtin.zeroCells z.cells n).toList).toArray++Builtin.zeroCells z.cells (cap - (c4+n))) e),k1,?_,?_,rfl,rfl,rfl,rfl⟩
 . simp only [Array.size_append,List.size_toArray,aqi,aY,aw];have:(Builtin.zeroCells z.cells (cap - (c4+n))).size=(cap - (c4+n)) * size:=by simp [Builtin.zeroCells,H.vw]
   rw [this,<-aq_,<-aq_];exact aq5 _ (by omega)
 . have f2:=hold w.drew rfl;by_cases a1:n=0
   . subst a1;have afm:¬c4<=fK:=by omega
     have adW:¬(9223372036854775807 < (c4:Int)):=by omega
     rw [aro] at uC;simp [Builtin.append_,H.ut,H.tN,H.lv,H.Aq,E4,zm,s4,afm,uC,adW,Question.forced,f2,newRow];refine ⟨rfl,?_⟩;have ax:(bY++(Builtin.zeroCells z.cells 0).toList).toArray=bY.toArray:=by rw [W_];simp
     rw [ax];rfl
   . simp [Builtin.append_,H.ut,H.tN,H.lv,H.Aq,bp,hw,afV,Fs,Nat.mul_ne_zero a1 cu,fb,s4,uC,jj,Question.forced,f2,newRow];refine ⟨rfl,?_⟩;have ax:(bY++(Builtin.zeroCells z.cells n).toList).toArray=bY.toArray++Builtin.zeroCells z.cells n:=by simp
     rw [ax,Array.append_assoc]
end
section
variable {P:Program}
abbrev cc (rd:Option Nat):Fence:={fn:=fun _=>True,depth:=none,alive:=false,round:=rd}
theorem sP {rd:Option Nat} {n:Nat} {f:FuncId} {args:Array Value} {w:World} {R:Ending->World->Prop}:CallsIn (cc rd) n P f args w R↔Calls P f args w R:=callsIn_wide
theorem GN {rd:Option Nat} (n:Nat):(cc rd).room n:=fun _ h=>by simp [cc] at h
abbrev qS (x:Value):List PanicEntry:=[{v:=x,recovered:=false}]
structure hb (P:Program) (call:dX):Prop where
 fn:∀(aC:Fr) f args h v ab,f≠dy->call f args h=.val v ab->∀E w xs,bj E args xs->bc aC E h w->
  ((∃fn,P.funcs[f]? =some fn/\fn.body.isSome=true)/\Calls P f xs.toArray w fun e w'=>∃az x,e=.returned x/\E.le az/\Rel az v x/\bc aC az ab w')\/
  ∃az x w',(callFunc f xs.toArray).run P w=.ok (.value x) w'/\E.le az/\Rel az v x/\bc aC az ab w'
 cL:∀(aC:Fr) f args h v ab,f≠dy->call f args h=.cL v ab->∀E w xs,bj E args xs->bc aC E h w->
  (∃fn,P.funcs[f]? =some fn/\fn.body.isSome=true)/\Calls P f xs.toArray w fun e w'=>∃az x,e=.panicked (qS x)/\E.le az/\Rel az v x/\bc aC az ab w'
 W9:∀(aC:Fr) args b h v ab,call dy (args++[.ptr b 0]) h=.val v ab->∀E w xs p,bj E args xs->bc aC E h w->E b=some p->
  ∃f tmps assign body,(Instr.yield p.a' xs.toArray).run P w=.ok (.round p.a' f tmps assign body) w/\
   RoundIn (cc none) 0 P p.a' f tmps assign body w fun e w'=>∃az x,e=.returned x/\E.le az/\Rel az v x/\bc aC az ab w'
 W':∀args h v ab,call dy args h≠.cL v ab
theorem qZ {rd:Option Nat} {o:Oper} (pA:∀c,o.op≠.defer c) (ρ:Operand->Value):o.semAt (cc rd).round ρ=execOp ρ o:=Oper.semAt_eq _ ρ o pA
theorem gC {rd:Option Nat} {o:Oper} {a:Act} {w:World} {aC:Fr} {E:Env} {ab:ag} {v:V} {m:Sem Value} {K:Act->World->Prop} {Q:Exit->Act->World->Prop}
 (ao:execOp a.eval o=(do pure (.value (<-m)))) (g:c_ aC P E w m v ab) (dM:∀az x w',E.le az->Rel az v x->bc aC az ab w'->K (a.put o.dst x) w') (pA:∀c,o.op≠.defer c:=by intro c h;cases h):
 o.wpIn (cc rd) 0 P a w K Q:=by
 obtain ⟨Z,w',az,aa,ae,aM,bw⟩:=g;refine ⟨fun _ _=>trivial,?_⟩;rw [qZ pA,ao,Sem.run_bind,aa];exact dM az Z w' ae aM bw
theorem Gq {E:Env} {ay:Nat} {r:bJ} {a:Act} (k:RegRel0 E ay r a):∀l:List (Nat × Operand),sB E ((vc l).run r) (l.map fun (i,x)=>(i,a.eval x))
 | []=>rfl
 | (i,x)::l=>by simp only [vc,List.map,sB];exact ⟨_,_,rfl,dD k x,Gq k l⟩
theorem Gn {E:Env} {ay:Nat} {r:bJ} {a:Act} (k:RegRel0 E ay r a) (x:Option Operand):iu E ((r8 x).run r) (x.map a.eval):=by
 cases x with
 | none=>rfl
 | some x=>simp only [r8,iu,Option.map];exact ⟨_,rfl,dD k x⟩
theorem akk {v:V} {f:aQ->Nat->ba} {r:V} {h:ag} (he:v.jK .fail f=.val r h):∃b off,v=.ptr b off/\f b off=.val r h:=by
 cases v<;>simp only [V.jK] at he<;>first
  | (cases he;done)
  | exact ⟨_,_,rfl,he⟩
theorem ajU {aC:Fr} {E:Env} {h ab:ag} {w:World} (s:bc aC E h w) {x v:V} {X:Value} {ty:TypeId} (ao:Rel E x X) (he:xi x h=.val v ab):c_ aC P E w (Instr.next X true ty) v ab:=by
 unfold xi at he;obtain ⟨b,off,rfl,aa⟩:=akk he;have ak:=s.at (p:=_) (by simp only [Rel] at ao;exact ao.choose_spec.1);cases aL:h.get b with
 | dead=>rw [aL] at aa;cases aa
 | view _ _=>rw [aL] at aa;cases aa
 | cells _ _ _ _=>rw [aL] at aa;cases aa
 | mp _ _=>rw [aL] at aa;cases aa
 | fI _=>rw [aL] at aa;cases aa
 | h2=>rw [aL] at aa;cases aa
 | ia _=>rw [aL] at aa;cases aa
 | hl _ _ _ _=>rw [aL] at aa;cases aa
 | iter st pos=>
   rw [aL] at aa ak;simp only at aa;obtain ⟨a1,ae⟩:=kv aa;rw [aqE] at a1;subst a1;obtain ⟨p,ai,cJ,mm,a_⟩:=ak;simp only [Rel] at ao;obtain ⟨q,ar,rfl⟩:=ao;rw [ai] at ar;cases ar;have eV:(getObj p.a').run P w=.ok (.stringIter ⟨⟨st⟩⟩ pos) w:=by simp only [getObj,Sem.run,a_]
   have cu:(⟨⟨st⟩⟩:ByteArray).size=st.length:=rfl;cases aN:Nat.blt pos st.length with
   | true=>
     rw [aN] at ae;simp only [ap8,ba.val.injEq] at ae;obtain ⟨rfl,rfl⟩:=ae;rw [aqA] at aN
     let b_:Obj:=.stringIter ⟨⟨st⟩⟩ (pos + (decodeL st pos).2)
     let w':World:={w with heap:=w.heap.setIfInBounds p.a' b_}
     have k7:=(ap5.1 a_).1;have qG:(setObj p.a' b_).run P w=.ok () w':=by simp only [setObj,Sem.run,a_];rfl
     refine ⟨.tuple #[.bool true,goInt pos,.int .i32 (decodeL st pos).1],w',E,?_,Env.le.refl E,?_,s.set (p:=p) (by rw [aL];rfl) ai cJ (by simp [w']) (fun j bG=>?_) rfl rfl rfl (fun _ _ _ e=>by cases e) ?_⟩
     . simp only [Instr.next,mm,Sem.run_bind,eV,Result.andThen_ok,cu,aqf aN];have:(Utf8.decode (⟨⟨st⟩⟩:ByteArray) pos)=decodeL st pos:=rfl;simp only [this];rw [qG];rfl
     . simp only [Rel,bj];exact ⟨_,rfl,_,_,rfl,rfl,_,_,rfl,rfl,_,_,rfl,rfl,rfl⟩
     . simp only [w',aqo];rw [aqa (fun e=>bG e.symm)]
     . exact ⟨p,ai,cJ,mm,by simp [w',k7,b_]⟩
   | false=>
     rw [aN] at ae;simp only [aqe,ba.val.injEq] at ae;obtain ⟨rfl,rfl⟩:=ae;have lS:¬pos<st.length:=by rw [<-aqA,aN];simp
     refine c_.plain (Z:=.tuple #[.bool false]) s ?_ ?_
     . simp only [Instr.next,mm,Sem.run_bind,eV,Result.andThen_ok,cu,aqa lS,Sem.run_pure]
     . simp only [Rel,bj];exact ⟨_,rfl,_,_,rfl,rfl,rfl⟩
theorem alI {aC:Fr} {E:Env} {h ab:ag} {w:World} (s:bc aC E h w) {t:TypeId} {x v:V} {X:Value} (ao:Rel E x X) (he:(GH P t).run x h=.val v ab):c_ aC P E w (Instr.range t X) v ab:=by
 unfold GH at he;cases aK:bf P t with
 | none=>rw [aK] at he;cases he
 | some aS=>
   rw [aK] at he;simp only at he;have hu:=fJ aK;cases bZ:aS.bk with
   | string=>
     rw [bZ] at he hu;simp only at he;cases x<;>simp only at he<;>try (cases he;done)
     rename_i st;simp only [ba.val.injEq] at he;obtain ⟨rfl,rfl⟩:=he;have:=ao.tK;subst this;have dE:=s.fresh h.next (ap7 _)
     have dO:E.put (aG h.next) ⟨w.heap.size,0,0⟩ (aG h.next)=some ⟨w.heap.size,0,0⟩:=by unfold Env.put;rw [aqf rfl]
     refine ⟨.pointer (some ⟨w.heap.size,0,none⟩),{w with heap:=w.heap.push (.stringIter ⟨⟨st⟩⟩ 0)},_,?_,Env.nk (p:=⟨w.heap.size,0,0⟩) dE,?_,s.alloc 0 ?_⟩
     . simp only [Instr.range,Sem.run_bind,hu,Result.andThen_ok,Sem.run_pure,run_newObj]
     . simp only [Rel];exact ⟨_,dO,by simp⟩
     . exact ⟨_,dO,s.frame.size,rfl,by simp⟩
   | map dc kW=>
     rw [bZ] at he hu;exact alJ s (hu w) ao he
   | _=>rw [bZ] at he;cases he
theorem Yy {aC:Fr} {E:Env} {h ab:ag} {w:World} (s:bc aC E h w) {t u:TypeId} {x y v:V} {X Y:Value} {ty:TypeId}
 (he:(DY P t u).run x y h=.val v ab) (ao:Rel E x X) (a6:Rel E y Y):c_ aC P E w (Builtin.append_ #[t,u] ty #[X,Y]) v ab:=by
 unfold DY at he;cases aK:bf P t with
 | none=>rw [aK] at he;cases he
 | some aS=>
   cases hu:bf P u with
   | none=>rw [aK,hu] at he;cases he
   | some tM=>
     rw [aK,hu] at he;simp only at he
     have main:(∀k,tM.bk≠.int k)->(match aS.bk with
      | .slice e=>match bf P e with
        | none=>(⟨fun _ _ _=>.fail⟩:Ar)
        | some bh=>match bh.zero with
          | none=>⟨fun _ _ _=>.fail⟩
          | some z=>bif Nat.ble 1 bh.size&&Nat.ble bh.bytes 4096&&Nat.beq z.cells.length bh.size then ⟨lF bh.size⟩ else ⟨fun _ _ _=>.fail⟩
      | _=>⟨fun _ _ _=>.fail⟩).run x y h=.val v ab->c_ aC P E w (Builtin.append_ #[t,u] ty #[X,Y]) v ab:=by
      intro rU he;cases bZ:aS.bk with
      | slice e=>
        rw [bZ] at he;simp only at he;cases ct:bf P e with
        | none=>rw [ct] at he;cases he
        | some bh=>
          rw [ct] at he;simp only at he;cases bl:bh.zero with
          | none=>rw [bl] at he;cases he
          | some z=>
            rw [bl] at he;simp only at he;cases av:(Nat.ble 1 bh.size&&Nat.ble bh.bytes 4096&&Nat.beq z.cells.length bh.size) with
            | false=>rw [av] at he;cases he
            | true=>
              rw [av] at he;simp only [ap8] at he;simp only [ap2,aqj,aqE] at av;obtain ⟨l9,w5,_,pE⟩:=tP (P:=P) (E:=E) ct bl w;refine YA s ⟨fun w=>?_,⟨tM.bk,fun w=>fJ hu w,rU⟩,fun w=>ko ct w,fun w=>GS ct w,⟨l9,w5,by rw [pE];exact av.2⟩,av.1.1,av.1.2⟩ he ao a6;have:=fJ aK w;rw [bZ] at this;exact this
      | _=>rw [bZ] at he;cases he
     cases zj:tM.bk with
     | int k=>
       rw [zj] at he;simp only at he;cases bZ:aS.bk with
       | slice e=>
         rw [bZ] at he;simp only at he;cases ct:bf P e with
         | none=>rw [ct] at he;cases he
         | some bh=>
           rw [ct] at he;simp only at he;cases bl:bh.zero with
           | none=>rw [bl] at he;cases he
           | some z=>
             rw [bl] at he;simp only at he;cases av:(Nat.ble 1 bh.size&&Nat.ble bh.bytes 4096&&Nat.beq z.cells.length bh.size) with
             | false=>rw [av] at he;cases he
             | true=>
               rw [av] at he;simp only [ap8] at he;simp only [ap2,aqj,aqE] at av;obtain ⟨l9,w5,Kx,pE⟩:=tP (P:=P) (E:=E) ct bl w;have zk:∀w,(underlying t).run P w=.ok (.slice e) w:=fun w=>by have:=fJ aK w;rw [bZ] at this;exact this
               have Kr:∀w,(underlying u).run P w=.ok (.int k) w:=fun w=>by have:=fJ hu w;rw [zj] at this;exact this
               have H:HP P t u e bh.size bh.bytes k l9:=⟨zk,Kr,fun w=>ko ct w,fun w=>GS ct w,w5,by rw [pE];exact av.2,av.1.1,av.1.2⟩;unfold DZ at he
               split at he
               case h_2=>cases he
               rename_i cN m
               split at he
               case h_2=>cases he
               rename_i n;obtain ⟨py,bz⟩:=kv he;simp only [ap2,aqj] at py;have aA:=uy py.1;subst aA;simp only [Rel] at a6;subst a6;have hF:=zU Kx n;have hlen:(ja z.cells n).length=n * bh.size:=by rw [<-hF.length];simp [Builtin.zeroCells,pE,av.2]
               exact YB s av.1.1 hF hlen (by have:=py.2;unfold top;omega) (fun w' A c4 fK a b c=>ami H py.2 a b c) (fun A c4 fK bY a b c d f=>amj H py.2 A c4 fK bY a b c d f) bz ao
       | _=>rw [bZ] at he;cases he
     | _=>rw [zj] at he;exact main (by rw [zj];simp) he
theorem abn {aC:Fr} {E:Env} {h ab:ag} {w:World} (s:bc aC E h w) {t:TypeId} {rest:List TypeId} {x y v:V} {X Y:Value} {ty:TypeId}
 (he:(Ei P t).run x y h=.val v ab) (ao:Rel E x X) (a6:Rel E y Y):c_ aC P E w (Builtin.copy_ (t::rest).toArray ty #[X,Y]) v ab:=by
 unfold Ei at he;cases aK:bf P t with
 | none=>rw [aK] at he;cases he
 | some aS=>
   rw [aK] at he;simp only at he;cases bZ:aS.bk with
   | slice e=>
     rw [bZ] at he;simp only at he;cases ct:bf P e with
     | none=>rw [ct] at he;cases he
     | some bh=>
       rw [ct] at he;simp only at he;exact abo s (fun w=>by have:=fJ aK w;rw [bZ] at this;exact this) (fun w=>ko ct w) he ao a6
   | _=>rw [bZ] at he;cases he
theorem aa1 {aC:Fr} {E:Env} {h ab:ag} {w:World} (s:bc aC E h w) {t:TypeId} {x v:V} {X:Value} {ty:TypeId} {z:List V} (av:Bb P t=some z)
 (he:Eg z x h=.val v ab) (ao:Rel E x X):c_ aC P E w (Builtin.clear_ #[t] ty #[X]) v ab:=by
 unfold Bb at av;cases aK:bf P t with
 | none=>rw [aK] at av;cases av
 | some aS=>
   rw [aK] at av;simp only at av;cases bZ:aS.bk with
   | slice e=>
     rw [bZ] at av;simp only at av;cases ct:bf P e with
     | none=>rw [ct] at av;cases av
     | some bh=>
       rw [ct] at av;simp only at av;cases bl:bh.zero with
       | none=>rw [bl] at av;cases av
       | some z0=>
         rw [bl] at av;simp only [ap3] at av;subst av;have hu:∀w,(underlying t).run P w=.ok (.slice e) w:=fun w=>by have:=fJ aK w;rw [bZ] at this;exact this
         obtain ⟨z,nd,Kx,Tb⟩:=tP (P:=P) (E:=E) ct bl w;have nothing:∀a c,X=.slice a 0 c->v=.tuple []->ab=h->c_ aC P E w (Builtin.clear_ #[t] ty #[X]) v ab:=by
          intro a c dp bz a_;subst dp bz a_;refine ⟨.tuple #[],w,E,?_,Env.le.refl E,?_,s⟩
          . cases a<;>simp [Builtin.clear_,Sem.run_bind,hu,Result.andThen_ok,Sem.run_pure]
          . simp only [Rel];exact ⟨_,rfl,rfl⟩
         have Wi:∀(b:aQ) (off n c:Nat) (p:jW),E b=some p->X=.slice (some ⟨p.a',p.base+off,none⟩) n c->(bif Nat.beq n 0 then (ba.val (.tuple []) h) else (match lay h b off (ja z0.cells n) with
          | some ab=>ba.val (.tuple []) ab
          | none=>.fail))=.val v ab->c_ aC P E w (Builtin.clear_ #[t] ty #[X]) v ab:=by
          intro b off n c p ai dp he;cases n with
          | zero=>
            simp only [ar5,ap8,ba.val.injEq] at he;exact nothing _ _ dp he.1.symm he.2.symm
          | succ n=>
            simp only [show Nat.beq (n+1) 0=false from rfl,aqe] at he;cases aw:lay h b off (ja z0.cells (n+1)) with
            | none=>rw [aw] at he;cases he
            | some aa=>
              rw [aw] at he;simp only [ba.val.injEq] at he;obtain ⟨rfl,rfl⟩:=he;obtain ⟨w',g1,g2⟩:=zr (P:=P) s (zU Kx (n+1)) aw ai;subst dp;refine ⟨.tuple #[],w',E,?_,Env.le.refl E,?_,g2⟩
              . simp only [Builtin.clear_,Sem.run_bind,List.getElem?_toArray,aqm,hu,nd,Result.andThen_ok];have:(storeCells ⟨p.a',p.base+off,none⟩ (Builtin.zeroCells z.cells (n+1)).toList).run P w=.ok () w':=g1;simp [this,Sem.run_pure,Result.andThen_ok]
              . simp only [Rel];exact ⟨_,rfl,rfl⟩
         unfold Eg at he;cases x<;>simp only at he<;>try (cases he;done)
         . simp only [Rel] at ao;obtain ⟨p,g1,g2,g3⟩:=ao;exact Wi _ _ _ _ p g1 g3 he
         . simp only [Rel] at ao;obtain ⟨p,g1,g2,g3⟩:=ao;exact Wi _ _ _ _ p g1 g3 he
         . simp only [Rel] at ao;obtain ⟨a,c,rfl⟩:=ao;simp only [ba.val.injEq] at he;exact nothing _ _ rfl he.1.symm he.2.symm
         . simp only [Rel] at ao;simp only [ba.val.injEq] at he;exact nothing _ _ ao he.1.symm he.2.symm
   | _=>rw [bZ] at av;cases av
theorem aaG {E:Env} {t:TypeId} {aS:ov} {x v:V} {X:Value} {ty:TypeId} (aK:bf P t=some aS) (aO:Cg aS.bk=true) (he:ur x=some v) (ao:Rel E x X) (w:World):
 ∃Z,(Builtin.cap_ #[t] ty #[X]).run P w=.ok Z w/\Rel E v Z:=by
 cases bZ:aS.bk with
 | slice e=>
   have hu:∀w,(underlying t).run P w=.ok (.slice e) w:=fun w=>by have:=fJ aK w;rw [bZ] at this;exact this
   cases x<;>simp only [ur] at he<;>try (cases he;done)
   . simp only [Rel] at ao;obtain ⟨p,_,_,rfl⟩:=ao;cases he;refine ⟨_,?_,rfl⟩;simp [Builtin.cap_,Sem.run_bind,hu,Result.andThen_ok,Sem.run_pure];rfl
   . simp only [Rel] at ao;subst ao;cases he;refine ⟨_,?_,rfl⟩;simp [Builtin.cap_,Sem.run_bind,hu,Result.andThen_ok,Sem.run_pure];rfl
 | _=>rw [bZ] at aO;cases aO
theorem C' {α:Type} (a:Array α):a.toList.toArray=a:=by simp
theorem Zh {aC:Fr} {E:Env} {h ab:ag} {w:World} (s:bc aC E h w) {b:Builtin} {cM:Array TypeId} {args:List V} {xs:List Value} {v:V} {ty:TypeId} {cs:Array Bool} (aw:bj E args xs)
 (he:(rp P b cM.toList).run args h=.val v ab):∃m:Sem Value,Go.builtin b cM ty cs xs.toArray=(do pure (.value (<-m)))/\c_ aC P E w m v ab:=by
 have one:∀{x:V},bj E [x] xs->∃X,xs=[X]/\Rel E x X:=by intro x h;simp only [bj] at h;obtain ⟨y,cy,rfl,a6,rfl⟩:=h;exact ⟨y,rfl,a6⟩
 have two:∀{x y:V},bj E [x,y] xs->∃X Y,xs=[X,Y]/\Rel E x X/\Rel E y Y:=by intro x y h;simp only [bj] at h;obtain ⟨X,_,rfl,dp,Y,_,rfl,fG,rfl⟩:=h;exact ⟨X,Y,rfl,dp,fG⟩
 cases b<;>simp only [rp] at he<;>try (simp [gq.none] at he;done)
 . -- append
   cases fH:cM.toList with
   | nil=>rw [fH] at he;simp [gq.none] at he
   | cons t tL=>
     rw [fH] at he;cases tL with
     | nil=>simp [gq.none] at he
     | cons u anw=>
       cases anw with
       | cons _ _=>simp [gq.none] at he
       | nil=>
         simp only at he
         match args,he,aw with
         | [x,y],he,aw=>
           obtain ⟨X,Y,rfl,dp,fG⟩:=two aw;have e:cM=#[t,u]:=by rw [<-C' cM,fH]
           exact ⟨_,rfl,by rw [e];exact Yy s he dp fG⟩
         | [],he,_=>cases he
         | [_],he,_=>cases he
         | _::_::_::_,he,_=>cases he
 . -- cap
   cases fH:cM.toList with
   | nil=>rw [fH] at he;simp [gq.none] at he
   | cons t tL=>
     rw [fH] at he;cases tL with
     | cons _ _=>simp [gq.none] at he
     | nil=>
       simp only at he;cases aK:bf P t with
       | none=>rw [aK] at he;simp [gq.none] at he
       | some aS=>
         rw [aK] at he;simp only at he;cases aO:Cg aS.bk with
         | false=>rw [aO] at he;simp [gq.none] at he
         | true=>
           rw [aO] at he;simp only [ap8] at he
           match args,he,aw with
           | [x],he,aw=>
             obtain ⟨X,rfl,dp⟩:=one aw;have e:cM=#[t]:=by rw [<-C' cM,fH]
             obtain ⟨eu,rfl⟩:=ba.i' he;obtain ⟨Z,fa,cT⟩:=aaG (P:=P) (ty:=ty) aK aO eu dp w;exact ⟨_,rfl,by rw [e];exact c_.plain s fa cT⟩
           | [],he,_=>cases he
           | _::_::_,he,_=>cases he
 . -- clear
   cases fH:cM.toList with
   | nil=>rw [fH] at he;simp [gq.none] at he
   | cons t tL=>
     rw [fH] at he;cases tL with
     | cons _ _=>simp [gq.none] at he
     | nil=>
       simp only at he;cases av:Bb P t with
       | none=>rw [av] at he;simp [gq.none] at he
       | some z=>
         rw [av] at he;simp only at he
         match args,he,aw with
         | [x],he,aw=>
           obtain ⟨X,rfl,dp⟩:=one aw;have e:cM=#[t]:=by rw [<-C' cM,fH]
           exact ⟨_,rfl,by rw [e];exact aa1 s av he dp⟩
         | [],he,_=>cases he
         | _::_::_,he,_=>cases he
 . -- copy
   cases fH:cM.toList with
   | nil=>rw [fH] at he;simp [gq.none] at he
   | cons t tL=>
     rw [fH] at he;simp only at he
     match args,he,aw with
     | [x,y],he,aw=>
       obtain ⟨X,Y,rfl,dp,fG⟩:=two aw;have e:cM=(t::tL).toArray:=by rw [<-C' cM,fH]
       exact ⟨_,rfl,by rw [e];exact abn s he dp fG⟩
     | [],he,_=>cases he
     | [_],he,_=>cases he
     | _::_::_::_,he,_=>cases he
 . -- len
   cases fH:cM.toList with
   | nil=>rw [fH] at he;simp [gq.none] at he
   | cons t tL=>
     rw [fH] at he;cases tL with
     | cons _ _=>simp [gq.none] at he
     | nil=>
       simp only at he;cases aK:bf P t with
       | none=>rw [aK] at he;simp [gq.none] at he
       | some aS=>
         rw [aK] at he;simp only at he
         match args,he,aw with
         | [x],he,aw=>
           obtain ⟨X,rfl,dp⟩:=one aw;have e:cM=[t].toArray:=by rw [<-C' cM,fH]
           cases hm:uX aS.bk with
           | true=>
             rw [hm] at he;exact ⟨_,rfl,by rw [e];exact ai3 s aK hm dp ty [] he⟩
           | false=>
             rw [hm] at he;simp only [aqe] at he;obtain ⟨eu,rfl⟩:=ba.i' he;obtain ⟨Z,fa,cT⟩:=ai4 (P:=P) aK eu dp ty [] w;exact ⟨_,rfl,by rw [e];exact c_.plain s fa cT⟩
         | [],he,_=>cases hm:uX aS.bk<;>rw [hm] at he<;>cases he
         | _::_::_,he,_=>cases hm:uX aS.bk<;>rw [hm] at he<;>cases he
 . -- max
   obtain ⟨eu,rfl⟩:=ba.i' he;clear he;cases args with
   | nil=>cases eu
   | cons x args=>
     simp only [lk] at eu;obtain ⟨k,a,rfl,aa⟩:=kl eu;simp only [bj] at aw;obtain ⟨X,cy,rfl,dp,aw⟩:=aw;have:=dp.jr;subst this;obtain ⟨Z,fa,cT⟩:=LG (P:=P) false args cy k a v aw aa w;exact ⟨_,rfl,c_.plain (Z:=Z) s (by simpa [Builtin.max_] using fa) cT⟩
 . -- min
   obtain ⟨eu,rfl⟩:=ba.i' he;clear he;cases args with
   | nil=>cases eu
   | cons x args=>
     simp only [lk] at eu;obtain ⟨k,a,rfl,aa⟩:=kl eu;simp only [bj] at aw;obtain ⟨X,cy,rfl,dp,aw⟩:=aw;have:=dp.jr;subst this;obtain ⟨Z,fa,cT⟩:=LG (P:=P) true args cy k a v aw aa w;exact ⟨_,rfl,c_.plain (Z:=Z) s (by simpa [Builtin.min_] using fa) cT⟩
end
section
variable {P:Program}
def et (P:Program):Prop:=∀(f:FuncId) (fn:Func),P.funcs[f]? =some fn->(fn.name == "runtime.NumGoroutine")=false
theorem vm (bI:et P) {f:FuncId} {fn:Func} (aF:P.funcs[f]? =some fn) (ak:fn.body.isSome=true) (args:Array Value) (w:World):(callFunc f args).run P w=.ok (.enter f args) w:=by
 have hN:fn.body.isNone=false:=by cases h:fn.body with | none=>rw [h] at ak;cases ak | some c=>rfl
 simp only [callFunc,Sem.run_bind,run_program,Result.andThen_ok,aF];rw [aqa (by rw [bI f fn aF];simp)];simp [hN]
theorem K5 {α β:Type} (f:α->β) (a:Array α):a.map f=(a.toList.map f).toArray:=by apply ar1;simp
theorem LD (ρ:Operand->Value) (bo:Array (Nat × Operand)):(bo.map fun (i,x)=>(i,ρ x))=(bo.toList.map fun (i,x)=>(i,ρ x)).toArray:=by apply ar1;simp
theorem YO {E:Env} {t vv:TypeId} {aS:ov} {ok:Bool} {x v:V} {X:Value} (aK:bf P t=some aS) (ak:Nat.beq (fe aS.bk) 5=false) (ao:Rel E x X)
 (he:A4 t aS.zero ok x=some v) (w:World):∃Z,(Instr.typeAssert X vv t ok).run P w=.ok Z w/\Rel E v Z:=by
 have hu:=fJ aK w;have rU:∀ms,aS.bk≠.interface ms:=fun ms e=>by rw [e] at ak;simp [fe] at ak
 have zero:∀z,aS.zero=some z->∃x,(zeroValue t).run P w=.ok x w/\Rel E z x:=fun z bl=>by obtain ⟨x,aa,ae,_⟩:=z_ (P:=P) aK bl E w;exact ⟨x,aa,ae⟩
 unfold A4 at he;cases x<;>simp only at he<;>try (cases he;done)
 case iface u y=>
  simp only [Rel] at ao;obtain ⟨Y,rfl,fG⟩:=ao;rw [h1] at he;by_cases zk:u=t
  . rw [aqf zk] at he;simp only [ap3] at he;subst zk;cases ok with
    | true=>
      simp only [ap8] at he;subst he;refine ⟨.tuple #[Y,.bool true],?_,by simp only [Rel,bj];exact ⟨_,rfl,_,_,rfl,fG,_,_,rfl,rfl,rfl⟩⟩;simp only [Instr.typeAssert,Sem.run_bind,hu,Result.andThen_ok];cases bZ:aS.bk<;>first
       | exact absurd bZ (rU _)
       | (simp only [aqB];rfl)
    | false=>
      simp only [aqe] at he;subst he;refine ⟨Y,?_,fG⟩;simp only [Instr.typeAssert,Sem.run_bind,hu,Result.andThen_ok];cases bZ:aS.bk<;>first
       | exact absurd bZ (rU _)
       | (simp only [aqB];rfl)
  . rw [aqa zk] at he;cases ok with
    | false=>cases he
    | true=>
      simp only [ap8] at he;cases bl:aS.zero with
      | none=>rw [bl] at he;cases he
      | some z=>
        rw [bl] at he;simp only [ap3] at he;subst he;obtain ⟨aZ,b7,z2⟩:=zero z bl;refine ⟨.tuple #[aZ,.bool false],?_,by simp only [Rel,bj];exact ⟨_,rfl,_,_,rfl,z2,_,_,rfl,rfl,rfl⟩⟩;simp only [Instr.typeAssert,Sem.run_bind,hu,Result.andThen_ok];cases bZ:aS.bk<;>first
         | exact absurd bZ (rU _)
         | (simp only [aqa zk,aqB,Sem.run_bind,b7,Result.andThen_ok];rfl)
 case nilIface=>
  simp only [Rel] at ao;subst ao;cases ok with
  | false=>cases he
  | true=>
    simp only [ap8] at he;cases bl:aS.zero with
    | none=>rw [bl] at he;cases he
    | some z=>
      rw [bl] at he;simp only [ap3] at he;subst he;obtain ⟨aZ,b7,z2⟩:=zero z bl;refine ⟨.tuple #[aZ,.bool false],?_,by simp only [Rel,bj];exact ⟨_,rfl,_,_,rfl,z2,_,_,rfl,rfl,rfl⟩⟩;simp only [Instr.typeAssert,Sem.run_bind,hu,Result.andThen_ok];cases bZ:aS.bk<;>first
       | exact absurd bZ (rU _)
       | (simp only [aqB,Sem.run_bind,b7,Result.andThen_ok];rfl)
def hs (P:Program) (call:dX):Prop:=∀f args h v ab,call f args h=.val v ab->True
theorem QD {rd:Option Nat} {aC:Fr} {E:Env} {h ab:ag} {w:World} {call:dX} (bI:et P) (cX:hb P call) (dJ:hs P call) {o:Oper} {ay:Nat} {r:bJ} {a:Act} {v:V}
 (he:(fw P o).run call r h=.val v ab) (k:RegRel0 E ay r a) (s:bc aC E h w) {K:Act->World->Prop} {Q:Exit->Act->World->Prop}
 (dM:∀az x w',E.le az->Rel az v x->bc aC az ab w'->K (a.put o.dst x) w'):o.wpIn (cc rd) 0 P a w K Q:=by
 obtain ⟨dst,op,type,pos,after,guard⟩:=o;cases op<;>simp only [fw] at he<;>try (simp [dt.none] at he;done)
 case move x=>
  simp only [ba.val.injEq] at he;obtain ⟨rfl,rfl⟩:=he;exact gC (m:=pure (a.eval x)) rfl (c_.plain s rfl (dD k x)) dM
 case assign x=>
  simp only [ba.val.injEq] at he;obtain ⟨rfl,rfl⟩:=he;exact gC (m:=pure (a.eval x)) rfl (c_.plain s rfl (dD k x)) dM
 case pick c x y=>
  have av:=dD k c;generalize (bX c).run r=MK at he av;cases MK<;>simp only at he<;>try (cases he;done)
  rename_i t;simp only [ba.val.injEq] at he;obtain ⟨rfl,rfl⟩:=he;simp only [Rel] at av;refine gC (m:=do pure (if <-asBool (a.eval c) then a.eval x else a.eval y)) (by simp only [execOp,bind_assoc,pure_bind]) (c_.plain (Z:=if t then a.eval x else a.eval y) s ?_ ?_) dM
  . rw [av];rfl
  . cases t
    . exact dD k y
    . exact dD k x
 case alloc t=>
  cases aK:bf P t with
  | none=>rw [aK] at he;simp [dt.none] at he
  | some aS=>
    rw [aK] at he;simp only at he;cases bl:aS.zero with
    | none=>rw [bl] at he;simp [dt.none] at he
    | some z=>
      rw [bl] at he;simp only at he;cases aW:gJ h z.cells with
      | none=>rw [aW] at he;cases he
      | some aa=>
        rw [aW] at he;simp only [ho,ba.val.injEq] at he;obtain ⟨rfl,rfl⟩:=he;obtain ⟨x,ao,pD,_⟩:=tP (P:=P) (E:=E) aK bl w;obtain ⟨az,g1,g2,g3,g4⟩:=F8 (P:=P) s pD aW t;have I6:(newRow t x.cells).run P w=.ok ⟨w.heap.size,0,none⟩ {w with heap:=w.heap.push (.cells x.cells t)}:=by simpa using g3
        have I7:bc aC az aa {w with heap:=w.heap.push (.cells x.cells t)}:=by simpa using g4
        exact gC (m:=Instr.alloc t true (.tuple #[])) rfl ⟨.pointer (some ⟨w.heap.size,0,none⟩),_,az,by simp only [Instr.alloc,Sem.run_bind,ao,Result.andThen_ok,newVar,I6,Sem.run_pure],g1,by simp only [Rel];exact ⟨_,g2,by simp⟩,I7⟩ dM
 case box t x=>
  obtain ⟨aL,he⟩:=kv he;cases aW:gJ h ((bX x).run r).cells with
  | none=>rw [aW] at he;cases he
  | some aa=>
    rw [aW] at he;simp only [ho,ba.val.injEq] at he;obtain ⟨rfl,rfl⟩:=he;have aw:=(dD k x).cells (fun e=>by rw [e] at aL;cases aL);obtain ⟨az,g1,g2,g3,g4⟩:=F8 (P:=P) s aw aW t;have I6:(newRow t (a.eval x).cells).run P w=.ok ⟨w.heap.size,0,none⟩ {w with heap:=w.heap.push (.cells (a.eval x).cells t)}:=by simpa using g3
    have I7:bc aC az aa {w with heap:=w.heap.push (.cells (a.eval x).cells t)}:=by simpa using g4
    exact gC (m:=Instr.box t (a.eval x)) rfl ⟨.pointer (some ⟨w.heap.size,0,none⟩),_,az,by simp only [Instr.box,Sem.run_bind,newVar,I6,Result.andThen_ok,Sem.run_pure],g1,by simp only [Rel];exact ⟨_,g2,by simp⟩,I7⟩ dM
 case build t bo=>
  obtain ⟨eu,rfl⟩:=ba.i' he;clear he;obtain ⟨Z,fa,cT⟩:=Zd (P:=P) (Gq k bo.toList) eu w;refine gC (m:=Instr.build t (bo.map fun (i,x)=>(i,a.eval x))) rfl (c_.plain (Z:=Z) s ?_ cT) dM;rw [LD];exact fa
 case buildSlice t n bo=>
  refine gC (m:=Instr.buildSlice t n (bo.map fun (i,x)=>(i,a.eval x))) rfl ?_ dM;rw [LD];exact Zf s (Gq k bo.toList) he
 case load t x=>
  obtain ⟨eu,rfl⟩:=ba.i' he;clear he;obtain ⟨Y,fG,cT,_⟩:=T6 (P:=P) s (dD k x) eu;exact gC (m:=Instr.loadAt t (a.eval x)) rfl (c_.plain s fG cT) dM
 case store t x y=>
  cases cH:(tG P t).run h ((bX x).run r) ((bX y).run r) with
  | none=>rw [cH] at he;cases he
  | some aa=>
    rw [cH] at he;simp only [ho,ba.val.injEq] at he;obtain ⟨rfl,rfl⟩:=he;obtain ⟨w',cU,jo⟩:=amX (P:=P) s (dD k x) (dD k y) cH;refine ⟨fun _ _=>trivial,?_⟩;rw [qZ (by intro c h;cases h)];have:execOp a.eval ⟨dst,.store t x y,type,pos,after,guard⟩=(do Instr.storeAt t (a.eval x) (a.eval y);pure .skip):=rfl;rw [this,Sem.run_bind,cU];exact dM E undef w' (Env.le.refl E) (by simp [Rel]) jo
 case nilCheck x=>
  obtain ⟨eu,rfl⟩:=ba.i' he;clear he;have ao:=dD k x;generalize (bX x).run r=xO at eu ao
  have eV:∀X,Rel E xO X->(match X with
   | .pointer none | .nilIface | .nilFunc=>(runtimePanic .nilDeref:Sem Next)
   | .func (.method name) first captured=>
     match (first[0]? :Option Value) with
     | some .nilIface=>runtimePanic .nilDeref
     | some (.iface t w)=>do
       if (<-nilAhead ((<-program).types.size+Made.depth) t w name) != some false then
        unsupported (.noEntry "op/nilCheck.the method's receiver behind this interface value is a nil pointer, or cannot be seen to be none, and the arguments act or may panic (ledger 612)")
       pure (.value (.func (.method name) first captured))
     | _=>pure (.value (.func (.method name) first captured))
   | x=>pure (.value x))=pure (.value X)/\v=xO:=by
   intro X dp;cases xO<;>simp only [u7] at eu<;>try (cases eu;done)
   all_goals simp only [ap3] at eu
   all_goals simp only [Rel] at dp
   . obtain ⟨p,_,rfl⟩:=dp;exact ⟨rfl,eu.symm⟩
   . rcases dp with ⟨_,_,rfl,_⟩ | ⟨_,_,_,_,_,rfl⟩<;>exact ⟨rfl,eu.symm⟩
   . obtain ⟨p,rfl,_⟩:=dp;exact ⟨rfl,eu.symm⟩
   . obtain ⟨_,p,rfl,_⟩:=dp;exact ⟨rfl,eu.symm⟩
  obtain ⟨aa,rfl⟩:=eV _ ao;exact gC (m:=pure (a.eval x)) (by simp only [execOp];rw [pure_bind];exact aa) (c_.plain s rfl ao) dM
 case binOp op t x y u=>
  obtain ⟨eu,rfl⟩:=ba.i' he;clear he;obtain ⟨Z,fa,cT⟩:=Y9 (P:=P) (jL:=x) (ib:=y) eu (dD k x) (dD k y) w;exact gC rfl (c_.plain s fa cT) dM
 case unOp op t x=>
  obtain ⟨eu,rfl⟩:=ba.i' he;clear he;obtain ⟨Z,fa,cT⟩:=anH (P:=P) eu (dD k x) w;exact gC (m:=Op.unary op (a.eval x)) rfl (c_.plain s fa cT) dM
 case convert t u x=>exact gC (m:=convert t u (a.eval x)) rfl (abk s he (dD k x)) dM
 case makeInterface t x=>
  cases aK:bf P t with
  | none=>rw [aK] at he;simp [dt.none] at he
  | some aS=>
    rw [aK] at he;simp only at he;cases ak:Nat.beq (fe aS.bk) 5 with
    | true=>rw [ak] at he;simp [dt.none] at he
    | false=>
      rw [ak] at he;simp only [aqe,ba.val.injEq] at he;obtain ⟨rfl,rfl⟩:=he;refine gC (m:=Instr.makeInterface t (a.eval x)) rfl (c_.plain (Z:=.iface t (a.eval x)) s ?_ ?_) dM
      . have hu:=fJ aK w;simp only [Instr.makeInterface,Sem.run_bind,hu,Result.andThen_ok];cases bZ:aS.bk<;>first
         | rfl
         | (rw [bZ] at ak;simp [fe] at ak)
      . simp only [Rel];exact ⟨_,rfl,dD k x⟩
 case makeFunc fn first eY=>
  cases fn<;>simp only at he<;>try (simp [dt.none] at he;done)
  rename_i f;cases aF:(first.isEmpty&&!Nat.beq f dy) with
  | false=>
    rw [aF] at he;simp only [aqe] at he;cases j1:(eY.isEmpty&&!Nat.beq f dy) with
    | false=>rw [j1] at he;simp [dt.none] at he
    | true=>
      rw [j1] at he;simp only [ap8,ba.val.injEq] at he;obtain ⟨rfl,rfl⟩:=he;simp only [ap2,arb] at j1;have JI:f≠dy:=fun e=>by rw [e] at j1;exact absurd j1.2 (by decide)
      have JF:eY=#[]:=by simpa using j1.1
      subst JF;refine gC (m:=Instr.makeFunc (.func f) (first.map a.eval) #[]) (by simp [execOp]) (c_.plain s rfl ?_) dM;simp only [Rel];exact ⟨JI,_,rfl,by rw [K5];simpa using rF k first.toList⟩
  | true=>
    rw [aF] at he;simp only [ap8,ba.val.injEq] at he;obtain ⟨rfl,rfl⟩:=he;simp only [ap2,arb] at aF;have JI:f≠dy:=fun e=>by rw [e] at aF;exact absurd aF.2 (by decide)
    have JF:first=#[]:=by simpa using aF.1
    subst JF;refine gC (m:=Instr.makeFunc (.func f) #[] (eY.map a.eval)) (by simp [execOp]) (c_.plain s rfl ?_) dM;simp only [Rel];exact .inl ⟨JI,_,rfl,by rw [K5];simpa using rF k eY.toList⟩
 case makeSlice t l c=>exact gC (m:=Instr.makeSlice t (a.eval l) (a.eval c)) rfl (ajr s (dD k l) (dD k c) he) dM
 case slice t x bu aB ew=>
  obtain ⟨eu,rfl⟩:=ba.i' he;clear he;obtain ⟨Z,fa,cT⟩:=amN (P:=P) eu (dD k x) (Gn k bu) (Gn k aB) (Gn k ew) w;exact gC (m:=Instr.sliceAt t (a.eval x) (bu.map a.eval) (aB.map a.eval) (ew.map a.eval)) rfl (c_.plain s fa cT) dM
 case fieldAddr t x i=>
  obtain ⟨eu,rfl⟩:=ba.i' he;clear he;obtain ⟨Z,fa,cT⟩:=acr (P:=P) eu (dD k x) w;exact gC (m:=Instr.fieldAt t (a.eval x) i) rfl (c_.plain s fa cT) dM
 case field t x i=>
  obtain ⟨eu,rfl⟩:=ba.i' he;clear he;obtain ⟨Z,fa,cT⟩:=acs (P:=P) eu (dD k x) w;exact gC (m:=Instr.field t (a.eval x) i) rfl (c_.plain s fa cT) dM
 case indexAddr t x i=>
  obtain ⟨eu,rfl⟩:=ba.i' he;clear he;obtain ⟨Z,fa,cT⟩:=af8 (P:=P) eu (dD k x) (dD k i) w;exact gC (m:=Instr.indexAt t (a.eval x) (a.eval i)) rfl (c_.plain s fa cT) dM
 case index t x i=>
  obtain ⟨eu,rfl⟩:=ba.i' he;clear he;obtain ⟨Z,fa,cT⟩:=af' (P:=P) eu (dD k x) (dD k i) w;exact gC (m:=Instr.index t (a.eval x) (a.eval i)) rfl (c_.plain s fa cT) dM
 case range t x=>exact gC (m:=Instr.range t (a.eval x)) rfl (alI s (dD k x) he) dM
 case next it zq=>
  cases zq with
  | true=>exact gC (m:=Instr.next (a.eval it) true type) rfl (ajU s (dD k it) he) dM
  | false=>exact gC (m:=Instr.next (a.eval it) false type) rfl (ajS s (dD k it) he) dM
 case entry it=>exact gC (m:=Instr.entry (a.eval it)) rfl (ab8 s (dD k it) he) dM
 case lookup t x y ok=>
  obtain ⟨eu,rfl⟩:=ba.i' he;clear he;obtain ⟨Z,fa,cT⟩:=ajl (P:=P) s (dD k x) (dD k y) eu;exact gC (m:=Instr.lookup t (a.eval x) (a.eval y) ok) rfl (c_.plain s fa cT) dM
 case mapEntry t m y=>exact gC (m:=Instr.mapEntry t (a.eval m) (a.eval y)) rfl (aju s (dD k m) (dD k y) he) dM
 case entryStore t m st x=>
  cases cH:rA h ((bX m).run r) ((bX st).run r) ((bX x).run r) with
  | none=>rw [cH] at he;cases he
  | some aa=>
    rw [cH] at he;simp only [ho,ba.val.injEq] at he;obtain ⟨rfl,rfl⟩:=he;obtain ⟨w',cU,jo⟩:=ab7 (P:=P) (t:=t) s (dD k m) (dD k st) (dD k x) cH;refine ⟨fun _ _=>trivial,?_⟩;rw [qZ (by intro c h;cases h)];have:execOp a.eval ⟨dst,.entryStore t m st x,type,pos,after,guard⟩=(do Instr.entryStore t (a.eval m) (a.eval st) (a.eval x);pure .skip):=rfl;rw [this,Sem.run_bind,cU];exact dM E undef w' (Env.le.refl E) (by simp [Rel]) jo
 case mapUpdate t m y x=>
  cases cH:(pY P t).run h ((bX m).run r) ((bX y).run r) ((bX x).run r) with
  | none=>rw [cH] at he;cases he
  | some aa=>
    rw [cH] at he;simp only [ho,ba.val.injEq] at he;obtain ⟨rfl,rfl⟩:=he;obtain ⟨w',cU,jo⟩:=WO (P:=P) s (dD k m) (dD k y) (dD k x) cH;refine ⟨fun _ _=>trivial,?_⟩;rw [qZ (by intro c h;cases h)];have:execOp a.eval ⟨dst,.mapUpdate t m y x,type,pos,after,guard⟩=(do Instr.mapUpdate t (a.eval m) (a.eval y) (a.eval x);pure .skip):=rfl;rw [this,Sem.run_bind,cU];exact dM E undef w' (Env.le.refl E) (by simp [Rel]) jo
 case insert t m y x=>
  cases cH:(pY P t).run h ((bX m).run r) ((bX y).run r) ((bX x).run r) with
  | none=>rw [cH] at he;cases he
  | some aa=>
    rw [cH] at he;simp only [ho,ba.val.injEq] at he;obtain ⟨rfl,rfl⟩:=he;obtain ⟨w',cU,jo⟩:=WO (P:=P) s (dD k m) (dD k y) (dD k x) cH;refine ⟨fun _ _=>trivial,?_⟩;rw [qZ (by intro c h;cases h)];have:execOp a.eval ⟨dst,.insert t m y x,type,pos,after,guard⟩=(do Instr.mapUpdate t (a.eval m) (a.eval y) (a.eval x);pure .skip):=rfl;rw [this,Sem.run_bind,cU];exact dM E undef w' (Env.le.refl E) (by simp [Rel]) jo
 case makeMap t x=>exact gC (m:=Instr.makeMap t (x.map a.eval)) rfl (ajq s (Gn k x) he) dM
 case panic x=>
  exfalso;unfold LB at he
  split at he<;>cases he
 case typeAssert x vv t ok=>
  cases aK:bf P t with
  | none=>rw [aK] at he;simp [dt.none] at he
  | some aS=>
    rw [aK] at he;simp only at he;cases ak:Nat.beq (fe aS.bk) 5 with
    | true=>rw [ak] at he;simp [dt.none] at he
    | false=>
      rw [ak] at he;simp only [aqe] at he;obtain ⟨eu,rfl⟩:=ba.i' he;clear he;obtain ⟨Z,fa,cT⟩:=YO aK ak (vv:=vv) (dD k x) eu w;exact gC (m:=Instr.typeAssert (a.eval x) vv t ok) rfl (c_.plain s fa cT) dM
 case extract x i=>
  have ao:=dD k x;generalize (bX x).run r=xO at he ao;cases xO<;>simp only at he<;>try (cases he;done)
  obtain ⟨eu,rfl⟩:=ba.i' he;clear he;simp only [Rel] at ao;obtain ⟨arr,dp,aw⟩:=ao;obtain ⟨y,a6,cT⟩:=aw.get i v eu;refine gC (m:=Instr.extract (a.eval x) i) rfl (c_.plain (Z:=y) s ?_ cT) dM;rw [dp];have:arr[i]? =some y:=by simpa using a6
  simp only [Instr.extract,this,Sem.run_pure]
 case call c=>
  obtain ⟨callee,args,types⟩:=c;cases callee with
  | invoke _ _=>simp [sM,dt.none] at he
  | builtin b=>
    simp only [sM] at he;obtain ⟨cs,hD⟩:∃cs,execOp a.eval ⟨dst,.call ⟨.builtin b,args,types⟩,type,pos,after,guard⟩=Go.builtin b types type cs (args.map a.eval):=by simp only [execOp,resolve,pure_bind,invoke];exact ⟨_,rfl⟩
    obtain ⟨m,hm,aL⟩:=Zh (P:=P) (ty:=type) (cs:=cs) s (rF k args.toList) he;refine gC (m:=m) ?_ aL dM;rw [hD,<-hm,K5]
  | value f=>
    simp only [sM] at he;have aF:=dD k f;generalize afH:(bX f).run r=xL at he aF;cases xL<;>simp only [V.zK] at he<;>try (cases he;done)
    rotate_left
    . rename_i g cs;simp only [Rel] at aF;refine ⟨fun _ _=>trivial,?_⟩;rw [qZ (by intro c h;cases h)];obtain ⟨aL,first,dp,aw⟩:=aF;have qn:=bj.append aw (rF k args.toList);have py:=cX.fn _ _ _ _ _ _ aL he E w _ qn s;have hex:execOp a.eval ⟨dst,.call ⟨.value f,args,types⟩,type,pos,after,guard⟩=callFunc g (first++args.map a.eval):=by
       simp only [execOp,resolve,dp,Deferred.ofValue,pure_bind,invoke];simp
      have e:first++args.map a.eval=(first.toList++args.toList.map a.eval).toArray:=by apply ar1;simp
      rw [hex,e];rcases py with ⟨⟨fn,hE,ak⟩,av⟩ | ⟨az,x,w',aD,al,au,aJ⟩
      case inr=>
       rw [aD];exact dM az x w' al au aJ
      rw [vm bI hE ak];refine ⟨fun h=>by simp at h,sP.2 (av.mono fun e w' ar=>?_)⟩;obtain ⟨az,x,rfl,al,au,aJ⟩:=ar;exact dM az x w' al au aJ
    rename_i g cs;simp only [Rel] at aF;refine ⟨fun _ _=>trivial,?_⟩;rw [qZ (by intro c h;cases h)];rcases aF with ⟨aL,eY,dp,aw⟩ | ⟨aL,b,p,hD,ai,dp⟩
    . have qn:=(rF k args.toList).append aw;have py:=cX.fn _ _ _ _ _ _ aL he E w _ qn s;have hex:execOp a.eval ⟨dst,.call ⟨.value f,args,types⟩,type,pos,after,guard⟩=callFunc g (args.map a.eval++eY):=by
       simp only [execOp,resolve,dp,Deferred.ofValue,pure_bind,invoke];simp
      have e:args.map a.eval++eY=(args.toList.map a.eval++eY.toList).toArray:=by apply ar1;simp
      rw [hex,e];rcases py with ⟨⟨fn,hE,ak⟩,av⟩ | ⟨az,x,w',aD,al,au,aJ⟩
      case inr=>
       rw [aD];exact dM az x w' al au aJ
      rw [vm bI hE ak];refine ⟨fun h=>by simp at h,sP.2 (av.mono fun e w' ar=>?_)⟩;obtain ⟨az,x,rfl,al,au,aJ⟩:=ar;exact dM az x w' al au aJ
    . subst aL hD;obtain ⟨IX,tmps,assign,body,al,au⟩:=cX.W9 _ _ _ _ _ _ he E w _ p (rF k args.toList) s ai;have hex:execOp a.eval ⟨dst,.call ⟨.value f,args,types⟩,type,pos,after,guard⟩=Instr.yield p.a' (args.map a.eval):=by
       simp only [execOp,resolve,dp,Deferred.ofValue,pure_bind,invoke];simp
      have e:args.map a.eval=(args.toList.map a.eval).toArray:=by apply ar1;simp
      rw [hex,e,al];refine ⟨fun h=>by simp at h,RoundIn.mono au fun e w' ar=>?_⟩;obtain ⟨az,x,rfl,a8,b',bP⟩:=ar;exact dM az x w' a8 b' bP
end
section
variable {P:Program}
theorem I_ {E:Env} {ay:Nat} {r:bJ} {a:Act} (k:RegRel0 E ay r a) {all:Array Oper} {j:Nat} {g:Oper} {d:Nat} (bG:all[j]? =some g) (aq:g.dst=some d) (ad':d<ay) (wG:d<=top):
 (∀b,T.get .bad (aG d) r=.bool b->yielded all a.tmps j=some b)/\(∀ah,T.get .bad (aG d) r=.tuple ah->yielded all a.tmps j=none):=by
 have aD:=k.aj d wG;have aN:d<a.tmps.size:=by rw [k.size];exact ad'
 have he:a.tmps[d]? =some (a.tmps.getD d undef):=by simp [aqx,aN]
 refine ⟨fun b ak=>?_,fun ah ak=>?_⟩
 . rw [ak] at aD;simp only [Rel] at aD;simp only [yielded,bG,Option.bind,aq,he,aD]
 . rw [ak] at aD;simp only [Rel] at aD;obtain ⟨arr,aD,_⟩:=aD;simp only [yielded,bG,Option.bind,aq,he,aD]
theorem QA {rd:Option Nat} {aC:Fr} {E:Env} {h ab:ag} {w:World} {call:dX} (bI:et P) (cX:hb P call) {o:Oper} {ay:Nat} {r:bJ} {a:Act} {v:V} (hm:mB o.op=true)
 (he:(fw P o).run call r h=.cL v ab) (k:RegRel0 E ay r a) (s:bc aC E h w) {K:Act->World->Prop} {Q:Exit->Act->World->Prop}
 (cD:∀az x w',E.le az->Rel az v x->bc aC az ab w'->Q (.panic (qS x)) a w'):o.wpIn (cc rd) 0 P a w K Q:=by
 obtain ⟨dst,op,type,pos,after,guard⟩:=o;cases op<;>simp only [mB] at hm<;>try (cases hm;done)
 all_goals simp only [fw] at he
 case panic x=>
  have ao:=dD k x;generalize (bX x).run r=xO at he ao;unfold LB at he;cases xO<;>simp only at he<;>try (cases he;done)
  simp only [ba.cL.injEq] at he;obtain ⟨rfl,rfl⟩:=he;have B_:=ao;simp only [Rel] at ao;obtain ⟨Y,dp,fG⟩:=ao;refine ⟨fun _ _=>trivial,?_⟩;rw [qZ (by intro c h;cases h)];have hex:(execOp a.eval ⟨dst,.panic x,type,pos,after,guard⟩).run P w=.halt (.panic (a.eval x)) w:=by simp only [execOp,dp,Instr.panic,Sem.run_bind];rfl
  rw [hex];exact cD E _ w (Env.le.refl E) B_ s
 case call c=>
  obtain ⟨callee,args,types⟩:=c;cases callee<;>simp only at hm<;>try (cases hm;done)
  rename_i f;simp only [sM] at he;have aF:=dD k f;generalize afH:(bX f).run r=xL at he aF;cases xL<;>simp only [V.zK] at he<;>try (cases he;done)
  rotate_left
  . rename_i g cs;simp only [Rel] at aF;refine ⟨fun _ _=>trivial,?_⟩;rw [qZ (by intro c h;cases h)];obtain ⟨aL,first,dp,aw⟩:=aF;have qn:=bj.append aw (rF k args.toList);obtain ⟨⟨fn,hE,ak⟩,av⟩:=cX.cL _ _ _ _ _ _ aL he E w _ qn s;have hex:execOp a.eval ⟨dst,.call ⟨.value f,args,types⟩,type,pos,after,guard⟩=callFunc g (first++args.map a.eval):=by
     simp only [execOp,resolve,dp,Deferred.ofValue,pure_bind,invoke];simp
    have e:first++args.map a.eval=(first.toList++args.toList.map a.eval).toArray:=by apply ar1;simp
    rw [hex,e,vm bI hE ak];refine ⟨fun h=>by simp at h,sP.2 (av.mono fun e w' ar=>?_)⟩;obtain ⟨az,x,rfl,al,au,aJ⟩:=ar;exact cD az x w' al au aJ
  rename_i g cs;simp only [Rel] at aF;refine ⟨fun _ _=>trivial,?_⟩;rw [qZ (by intro c h;cases h)];rcases aF with ⟨aL,eY,dp,aw⟩ | ⟨aL,b,p,hD,ai,dp⟩
  . have qn:=(rF k args.toList).append aw;obtain ⟨⟨fn,hE,ak⟩,av⟩:=cX.cL _ _ _ _ _ _ aL he E w _ qn s;have hex:execOp a.eval ⟨dst,.call ⟨.value f,args,types⟩,type,pos,after,guard⟩=callFunc g (args.map a.eval++eY):=by
     simp only [execOp,resolve,dp,Deferred.ofValue,pure_bind,invoke];simp
    have e:args.map a.eval++eY=(args.toList.map a.eval++eY.toList).toArray:=by apply ar1;simp
    rw [hex,e,vm bI hE ak];refine ⟨fun h=>by simp at h,sP.2 (av.mono fun e w' ar=>?_)⟩;obtain ⟨az,x,rfl,al,au,aJ⟩:=ar;exact cD az x w' al au aJ
  . subst aL;exact absurd he (cX.W' _ _ _ _)
def ot (aC:Fr) (E:Env) (ay:Nat) (K:Act->World->Prop) (Q:Exit->Act->World->Prop):mN->Prop
 | .ok r h=>∀az bn w',E.le az->fv az ay r bn->bc aC az h w'->K bn w'
 | .cL v r h=>∀az bn w' x,E.le az->fv az ay r bn->Rel az v x->bc aC az h w'->Q (.panic (qS x)) bn w'
 | .fail=>False
theorem ot.up {aC:Fr} {E az:Env} (h:E.le az) {ay:Nat} {K:Act->World->Prop} {Q:Exit->Act->World->Prop} {x:mN} (k:ot aC E ay K Q x):ot aC az ay K Q x:=by
 cases x with
 | ok r a_=>exact fun bO a w ae=>k bO a w (h.trans ae)
 | cL v r a_=>exact fun bO a w x ae=>k bO a w x (h.trans ae)
 | fail=>exact k
theorem UW {rd:Option Nat} {aC:Fr} {E:Env} {h:ag} {w:World} {call:dX} (bI:et P) (cX:hb P call) (dJ:hs P call) {all:Array Oper} {i:Nat} {o:Oper} (aB:all[i]? =some o) {ay:Nat} {r:bJ} {a:Act}
 (aq:e0 ay o.dst=true) (k:fv E ay r a) (s:bc aC E h w) {K:Act->World->Prop} {Q:Exit->Act->World->Prop} (hw:Region.wanted o (yielded all a.tmps)=true)
 (ai:ot aC E ay K Q (Gm (mB o.op) (fw P o) (fQ o.dst) call r h)):wpOpIn (cc rd) 0 P all Q i K a w:=by
 simp only [wpOpIn,aB,hw,aqB];unfold Gm at ai;cases aY:(fw P o).run call r h with
 | fail=>rw [aY] at ai;exact ai.elim
 | val v aa=>
   rw [aY] at ai;exact QD bI cX dJ aY k.toRegRel0 s fun az x w' al au aJ=>ai az _ w' al ((k.mono al).put aq au) aJ
 | cL v aa=>
   rw [aY] at ai;simp only at ai;cases hm:mB o.op with
   | false=>rw [hm] at ai;exact ai.elim
   | true=>
     rw [hm] at ai;exact QA bI cX hm aY k.toRegRel0 s fun az x w' al au aJ=>ai az a w' x al (k.mono al) au aJ
theorem WN {rd:Option Nat} {aC:Fr} {E:Env} {h:ag} {w:World} {all:Array Oper} {i:Nat} {o:Oper} (aB:all[i]? =some o) {ay:Nat} {r:bJ} {a:Act}
 (aq:e0 ay o.dst=true) (k:fv E ay r a) (s:bc aC E h w) {K:Act->World->Prop} {Q:Exit->Act->World->Prop} (hw:Region.wanted o (yielded all a.tmps)=false)
 (ai:ot aC E ay K Q (.ok ((fQ o.dst).run r (.tuple [])) h)):wpOpIn (cc rd) 0 P all Q i K a w:=by
 simp only [wpOpIn,aB,hw,aqd,aqD];exact ⟨fun _ _=>trivial,ai E _ w (Env.le.refl E) (k.put aq (by simp only [Rel];exact ⟨#[],rfl,rfl⟩)) s⟩
theorem Gl {rd:Option Nat} {aC:Fr} {E:Env} {h:ag} {w:World} {call:dX} (bI:et P) (cX:hb P call) (dJ:hs P call) {all:Array Oper} {i:Nat} {o:Oper} (aB:all[i]? =some o) {ay:Nat} {r:bJ} {a:Act}
 (aq:e0 ay o.dst=true) (k:fv E ay r a) (s:bc aC E h w) {K:Act->World->Prop} {Q:Exit->Act->World->Prop}
 (ai:ot aC E ay K Q ((zM P ay all o).run call r h)):wpOpIn (cc rd) 0 P all Q i K a w:=by
 unfold zM at ai;cases aL:o.guard with
 | none=>
   rw [aL] at ai;exact UW bI cX dJ aB aq k s (by simp [Region.wanted,aL]) ai
 | some oK=>
   obtain ⟨j,want⟩:=oK;rw [aL] at ai;simp only at ai;cases bG:all[j]? with
   | none=>rw [bG] at ai;exact ai.elim
   | some g=>
     rw [bG] at ai;simp only at ai;cases jk:g.dst with
     | none=>rw [jk] at ai;exact ai.elim
     | some d=>
       rw [jk] at ai;simp only at ai;cases av:(Nat.blt d ay&&Nat.ble d top) with
       | false=>rw [av] at ai;exact ai.elim
       | true=>
         rw [av] at ai;simp only [ap8,RW,pr] at ai;simp only [ap2,aqA,aqj] at av;obtain ⟨g1,g2⟩:=I_ k.toRegRel0 bG jk av.1 av.2;cases bz:T.get .bad (aG d) r<;>rw [bz] at ai<;>simp only at ai<;>try (exact ai.elim)
         . rename_i b;have a6:=g1 b bz;cases ak:(bif want then b else !b) with
           | true=>
             rw [ak] at ai;simp only [ap8] at ai;refine UW bI cX dJ aB aq k s ?_ ai;simp only [Region.wanted,aL,a6];cases want<;>cases b<;>simp_all
           | false=>
             rw [ak] at ai;simp only [aqe] at ai;refine WN aB aq k s ?_ ai;simp only [Region.wanted,aL,a6];cases want<;>cases b<;>simp_all
         . rename_i ah;have a6:=g2 ah bz;refine WN aB aq k s ?_ ai;simp only [Region.wanted,aL,a6];rfl
theorem l_.list {E:Env} {v:V} {ds:List Deferred} (k:l_ E v ds):oh E v.list ds:=by
 cases v<;>first
  | exact k
theorem akK {rd:Option Nat} {aC:Fr} {E:Env} {h:ag} {w:World} {call:dX} (bI:et P) (cX:hb P call) (dJ:hs P call) {all:Array Oper} {i:Nat} {o:Oper} (aB:all[i]? =some o) {ay:Nat} {r:bJ} {a:Act}
 (aD:rd=none\/Lg o=true) (k:fv E ay r a) (s:bc aC E h w) {K:Act->World->Prop} {Q:Exit->Act->World->Prop}
 (ai:ot aC E ay K Q ((Gk P ay all o).run call r h)):wpOpIn (cc rd) 0 P all Q i K a w:=by
 unfold Gk at ai;cases aq:e0 ay o.dst with
 | false=>rw [aq] at ai;exact ai.elim
 | true=>
   rw [aq] at ai;simp only [ap8] at ai;obtain ⟨dst,op,type,pos,after,guard⟩:=o;cases op with
   | defer c=>
     rcases aD with rfl | aD
     case inr=>cases aD
     simp only at ai;cases guard with
     | some _=>exact ai.elim
     | none=>
       simp only at ai;obtain ⟨callee,args,types⟩:=c;simp only [QJ] at ai;cases callee<;>simp only at ai<;>try (exact ai.elim)
       rename_i f;unfold QK at ai;have aF:=dD k.toRegRel0 f;generalize (bX f).run r=xL at ai aF;cases xL<;>simp only at ai<;>try (exact ai.elim)
       rename_i g cs;cases a6:Nat.beq g dy with
       | true=>rw [a6] at ai;exact ai.elim
       | false=>
         rw [a6] at ai;simp only [aqe] at ai;have Sq:g≠dy:=fun e=>by rw [e] at a6;exact absurd a6 (by decide)
         simp only [Rel] at aF;rcases aF with ⟨_,eY,dp,aw⟩ | ⟨aL,_⟩
         case inr=>exact absurd aL Sq
         simp only [wpOpIn,aB,Region.wanted,aqB];refine ⟨fun _ _=>trivial,?_⟩;have hex:((Oper.mk dst (.defer ⟨.value f,args,types⟩) type pos after none).semAt (cc none).round a.eval).run P w=.ok (.defer {target:=.fn (.func g) eY,args:=#[]++args.map a.eval}) w:=by simp only [Oper.semAt_none,execOp,resolve,dp,Deferred.ofValue,pure_bind];rfl
         rw [hex];refine ai E _ w (Env.le.refl E) (fv.put ?_ aq (by simp only [Rel];exact ⟨#[],rfl,rfl⟩)) s;refine ⟨⟨k.size,fun t aK=>?_⟩,?_⟩
         rotate_left
         . rw [T.iD,aqf rfl];simp only [l_,oh];refine ⟨_,_,rfl,⟨Sq,eY,rfl,?_⟩,k.defers.list⟩;have:=(rF k.toRegRel0 args.toList).append aw;simpa using this
         . rw [T.iD,aqa (fun e=>xm aK e.symm)];exact k.aj t aK
   | binOp op t x y u=>
     simp only at ai;cases guard with
     | some g=>exact Gl bI cX dJ aB aq k s ai
     | none=>
       simp only at ai;cases mr:xv P op t with
       | none=>rw [mr] at ai;exact Gl bI cX dJ aB aq k s ai
       | some neg=>
         rw [mr] at ai;simp only [Vq] at ai;cases ar:j5 h ((bX x).run r) ((bX y).run r) with
         | none=>rw [ar] at ai;exact Gl bI cX dJ aB aq k s ai
         | some b=>
           rw [ar] at ai;simp only [wpOpIn,aB,Region.wanted,aqB];obtain ⟨Z,fa,cT⟩:=Vo (P:=P) (jL:=x) (ib:=y) s mr ar (dD k.toRegRel0 x) (dD k.toRegRel0 y);exact gC rfl (c_.plain s fa cT) fun az v w' al au aJ=>ai az _ w' al ((k.mono al).put aq au) aJ
   | _=>exact Gl bI cX dJ aB aq k s ai
theorem UX {rd:Option Nat} {aC:Fr} {call:dX} (bI:et P) (cX:hb P call) (dJ:hs P call) {all:Array Oper} {ay:Nat} {Q:Exit->Act->World->Prop}:∀(l:List Oper) (i:Nat),(∀j,l[j]? =all[i+j]?)->(rd=none\/∀o ∈ l,Lg o=true)->
 ∀(E:Env) (r:bJ) (h:ag) (a:Act) (w:World),ot aC E ay (Q .normal) Q ((CI P ay all l).run call r h)->fv E ay r a->bc aC E h w->
 wpOpsIn (cc rd) 0 P all Q (List.range' i l.length) a w
 | [],i,_,_,E,r,h,a,w,ai,k,s=>by simp only [CI] at ai;simp only [aqN,List.range'_zero,wpOpsIn];exact ai E a w (Env.le.refl E) k s
 | o::os,i,aw,aD,E,r,h,a,w,ai,k,s=>by
   simp only [CI,V_] at ai;have aB:all[i]? =some o:=by have:=aw 0;simpa using this.symm
   rw [aqb,List.range'_succ,wpOpsIn_cons];refine akK bI cX dJ aB (aD.imp id fun h=>h o (by simp)) k s ?_;cases aa:(Gk P ay all o).run call r h with
   | fail=>rw [aa] at ai;exact ai
   | cL v a8 rP=>rw [aa] at ai;exact ai
   | ok a8 rP=>
     rw [aa] at ai;simp only at ai;intro az bn w' al au aJ;refine UX bI cX dJ os (i+1) (fun j=>?_) (aD.imp id fun h b_ hP=>h b_ (by simp [hP])) az a8 rP bn w' (ai.up al) au aJ;have:=aw (j+1);simp only [aq6] at this;rw [this];congr 1;omega
end
theorem Rc {a b:V} (h:EB a b=true):a=b:=by
 cases a<;>cases b<;>simp only [EB] at h<;>first
  | rfl
  | (cases h;done)
  | (rename_i x y;cases x<;>cases y<;>simp_all;done)
  | (rename_i k x l y
     simp only [ap2] at h;have aa:=uy h.1;have ae:=h.2;rw [mS,arO] at ae;rw [aa,ae];done)
  | (rw [vZ,arO] at h;rw [h];done)
  | (simp only [ap2,aqE] at h
     obtain ⟨aa,ae,aM,bw⟩:=h;rw [aQ.mS aa,ae,aM,bw];done)
  | (simp only [ap2,aqE] at h
     rw [aQ.mS h.1,h.2];done)
  | (rw [aQ.mS h];done)
  | (simp only [ap2,aqE,List.isEmpty_iff] at h
     obtain ⟨aa,ae,aM⟩:=h;rw [aa,ae,aM];done)
  | (simp only [ap2,List.isEmpty_iff] at h
     rw [h.1,h.2];done)
theorem IQ {f:V->V->Bool} (aF:∀a b,f a b=true->a=b):∀{a b:List V},yu f a b=true->a=b
 | [],[],_=>rfl
 | [],_::_,h=>by cases h
 | _::_,[],h=>by cases h
 | a::x,b::y,h=>by
   simp only [yu] at h;cases aa:f a b with
   | false=>rw [aa] at h;cases h
   | true=>
     rw [aa] at h;rw [aF a b aa,IQ aF h]
theorem Y6 {c x:Bool} (h:(bif c then x else false)=true):c=true/\x=true:=by
 cases c with
 | false=>cases h
 | true=>exact ⟨rfl,h⟩
theorem Rd:∀(d:Nat) (a b:V),wk d a b=true->a=b
 | 0,a,b,h=>Rc h
 | d+1,a,b,h=>by
   have bd:=Rd d;cases a<;>simp only [wk] at h<;>first
    | exact Rc h
    | (cases b<;>simp only at h<;>first
        | (cases h;done)
        | rfl
        | (rw [IQ bd h];done)
        | (obtain ⟨aa,ae⟩:=Y6 h
           rw [aqE] at aa;rw [aa]
           first
            | rw [IQ bd ae]
            | rw [bd _ _ ae]))
theorem IS {a b:V} (h:Bk a b=true):a=b:=Rd 5 a b h
theorem A6 (m i:Nat):ga m i=m.testBit i:=by
 rw [Nat.testBit_eq_decide_div_mod_eq];unfold ga;have e:Nat.mod (Nat.shiftRight m i) 2=m / 2 ^ i % 2:=by show (m >>> i) % 2=_;rw [Nat.shiftRight_eq_div_pow]
 rw [e,aqX,aqE,aqg]
theorem K6 {dY:List Nat} {i:Nat}:∀{es:List Edge},ga (u4 dY es) i=true->∃e ∈ es,v7 e=true/\(e.on=i\/ga ((dY[e.on]?).getD 0) i=true)
 | [],h=>by simp [u4,A6] at h
 | e::es,h=>by
   simp only [u4] at h;cases ak:v7 e with
   | false=>
     rw [ak] at h;obtain ⟨c7,aa,ae⟩:=K6 (es:=es) h;exact ⟨c7,by simp [aa],ae⟩
   | true=>
     rw [ak] at h;simp only [ap8,A6] at h;have ab:((1 <<< e.on||| (dY[e.on]?).getD 0)||| u4 dY es).testBit i=true:=h;rw [Nat.testBit_or,Nat.testBit_or,arp,arp] at ab;rcases ab with (aa | aa) | aa
     . refine ⟨e,by simp,ak,.inl ?_⟩;rw [Nat.testBit_shiftLeft] at aa;simp only [ap2,aqg] at aa;have:=aa.2;rw [Nat.testBit_one_eq_true_iff_self_eq_zero] at this;omega
     . exact ⟨e,by simp,ak,.inr (by rw [A6];exact aa)⟩
     . rw [<-A6] at aa;obtain ⟨c7,al,au⟩:=K6 (es:=es) aa;exact ⟨c7,by simp [al],au⟩
def q_ (ops:Array Oper) (L:Nat->Prop):Prop:=∀k o e,L k->ops[k]? =some o->e ∈ o.after.toList->v7 e=true->L e.on
theorem Cv {ops:Array Oper} {L:Nat->Prop} (Bt:q_ ops L):∀(os:List Oper) (dY:List Nat),(∀j,os[j]? =ops[dY.length+j]?)->
 (∀k m i,dY[k]? =some m->ga m i=true->L k->L i)->∀k m i,(eX dY os)[k]? =some m->ga m i=true->L k->L i
 | [],dY,_,h,k,m,i,aA,ak,c0=>h k m i aA ak c0
 | o::os,dY,pC,h,k,m,i,aA,ak,c0=>by
   simp only [eX] at aA;refine Cv Bt os (dY++[u4 dY o.after.toList]) (fun j=>?_) (fun k m i aA ak c0=>?_) k m i aA ak c0
   . have:=pC (j+1);simp only [aq6] at this;rw [this];congr 1;simp;omega
   . by_cases aN:k<dY.length
     . rw [aqq aN] at aA;exact h k m i aA ak c0
     . rw [aqk (by omega)] at aA;have BN:k-dY.length=0:=by
        cases bl:k-dY.length with
        | zero=>rfl
        | succ n=>rw [bl] at aA;simp at aA
       rw [BN] at aA;simp only [aqm,ap3] at aA;subst aA;have Fk:k=dY.length:=by omega
       have aY:ops[k]? =some o:=by have:=pC 0;simp only [aqm,aro] at this;rw [Fk];exact this.symm
       obtain ⟨e,he,Jp,ih⟩:=K6 ak;have R6:=Bt k o e c0 aY he Jp;rcases ih with rfl | ih
       . exact R6
       . cases hm:dY[e.on]? with
         | none=>rw [hm] at ih;simp [A6] at ih
         | some dd=>rw [hm] at ih;exact h e.on dd i hm ih R6
theorem q7 {f:Nat->Nat->Oper->Bool}:∀{k:Nat} {ms:List Nat} {os:List Oper},og f k ms os=true->∀j o,os[j]? =some o->∃m,ms[j]? =some m/\f (k+j) m o=true
 | _,_,[],_,j,o,h=>by simp at h
 | _,[],_::_,h,_,_,_=>by cases h
 | k,m::ms,b_::os,h,j,o,aY=>by
   simp only [og,ap2] at h;cases j with
   | zero=>simp only [aqm,ap3] at aY;subst aY;exact ⟨m,rfl,h.1⟩
   | succ j=>
     obtain ⟨dd,aa,ae⟩:=q7 h.2 j o (by simpa using aY);exact ⟨dd,by simpa using aa,by rw [show k + (j+1)=k+1+j from by omega];exact ae⟩
theorem MZ {f:Nat->Nat->Oper->Bool}:∀{k:Nat} {ms:List Nat} {os:List Oper},ms.length=os.length->(∀j m o,ms[j]? =some m->os[j]? =some o->f (k+j) m o=true)->og f k ms os=true
 | _,[],[],_,_=>rfl
 | _,[],_::_,h,_=>by simp at h
 | _,_::_,[],h,_=>by simp at h
 | k,m::ms,o::os,h,aF=>by simp only [og,ap2];refine ⟨aF 0 m o rfl rfl,MZ (by simpa using h) fun j dd b_ aa ae=>?_⟩;have:=aF (j+1) dd b_ (by simpa using aa) (by simpa using ae);rw [show k+1+j=k + (j+1) from by omega];exact this
theorem K7:∀(os:List Oper) (dY:List Nat),(eX dY os).length=dY.length+os.length
 | [],dY=>rfl
 | o::os,dY=>by simp [eX,K7 os];omega
section
variable {P:Program}
theorem QC {o:Oper} {call:dX} {r:bJ} {h ab:ag} {v:V} (ar:e9 P o.op=false) (he:(fw P o).run call r h=.val v ab):ab=h:=by
 obtain ⟨dst,op,type,pos,after,guard⟩:=o;cases op<;>simp only [e9] at ar<;>try (cases ar;done)
 all_goals simp only [fw] at he
 case convert s d x=>
  unfold rv at he;cases aO:bf P s with
  | none=>rw [aO] at he;cases he
  | some vo=>
    cases aq:bf P d with
    | none=>rw [aq] at ar;cases ar
    | some pk=>
      rw [aO,aq] at he;rw [aq] at ar;simp only at he ar;cases hu:pk.bk with
      | int k=>
        rw [hu] at he;obtain ⟨bs,n,_,aa⟩:=tw he;simp only [ba.val.injEq] at aa;exact aa.2.symm
      | slice e=>rw [hu] at ar;cases ar
      | string=>
        rw [hu] at he;simp only at he
        have other:∀x:V,(match x with
         | .str s=>ba.val (.str s) h
         | .int _ n=>.val (.str (Utf8.encode n).data.toList) h
         | _=>.fail)=.val v ab->ab=h:=by
         intro x he;cases x<;>simp only at he<;>first
          | (cases he;done)
          | (simp only [ba.val.injEq] at he;exact he.2.symm)
        cases nU:vo.bk with
        | slice e=>
          rw [nU] at he;simp only at he;cases ct:bf P e with
          | none=>rw [ct] at he;cases he
          | some bh=>
            rw [ct] at he;simp only at he;have am0:∀b off len,vr b off len h=.val v ab->ab=h:=by
             intro b off len he;unfold vr at he;cases aL:h.get b<;>rw [aL] at he<;>simp only [b8.pW] at he<;>try (cases he;done)
             all_goals
              obtain ⟨_,ae⟩:=kv he;cases afC:o1 (h5 _ off len)<;>rw [afC] at ae<;>first
               | (cases ae;done)
               | (simp only [ba.val.injEq] at ae;exact ae.2.symm)
            cases eU:bh.bk with
            | int Cj=>
              rw [eU] at he;cases Cj<;>simp only at he<;>try (cases he;done)
              simp only [uu] at he;cases ao:(bX x).run r<;>rw [ao] at he<;>simp only at he<;>first
               | (cases he;done)
               | exact am0 _ _ _ he
               | (simp only [ba.val.injEq] at he;exact he.2.symm)
            | _=>rw [eU] at he;cases he
        | _=>rw [nU] at he;exact other _ he
      | _=>rw [hu] at he;cases he
 case call c=>
  obtain ⟨callee,args,types⟩:=c;cases callee<;>simp only at ar<;>try (cases ar;done)
  rename_i b;simp only [sM] at he;cases b<;>simp only at ar<;>try (cases ar;done)
  . simp only [rp] at he;cases fH:types.toList with
    | nil=>rw [fH] at he;simp [gq.none] at he
    | cons t cM=>
      cases cM with
      | cons _ _=>rw [fH] at he;simp [gq.none] at he
      | nil=>
        rw [fH] at he;simp only at he;cases aK:bf P t with
        | none=>rw [aK] at he;simp [gq.none] at he
        | some aS=>
          rw [aK] at he;rw [fH] at ar;simp only [KJ,aK] at ar;simp only [ar,aqe] at he
          split at he
          . exact (ba.i' he).2
          . cases he
  . exact (ba.i' he).2
  . exact (ba.i' he).2
 case move=>simp only [ba.val.injEq] at he;exact he.2.symm
 case assign=>simp only [ba.val.injEq] at he;exact he.2.symm
 case pick c a b=>
  split at he
  . simp only [ba.val.injEq] at he;exact he.2.symm
  . cases he
 case makeFunc fn first eY=>
  cases fn<;>simp only at he<;>try (simp [dt.none] at he;done)
  rename_i f;cases aF:(first.isEmpty&&!Nat.beq f dy)<;>rw [aF] at he
  . simp only [aqe] at he;cases j1:(eY.isEmpty&&!Nat.beq f dy)<;>rw [j1] at he
    . simp [dt.none] at he
    . simp only [ap8,ba.val.injEq] at he;exact he.2.symm
  . simp only [ap8,ba.val.injEq] at he;exact he.2.symm
 case typeAssert x vv t ok=>
  cases aK:bf P t with
  | none=>rw [aK] at he;simp [dt.none] at he
  | some aS=>
    rw [aK] at he;simp only at he;cases ak:Nat.beq (fe aS.bk) 5<;>rw [ak] at he
    . exact (ba.i' he).2
    . simp [dt.none] at he
 case makeInterface t x=>
  cases aK:bf P t with
  | none=>rw [aK] at he;simp [dt.none] at he
  | some aS=>
    rw [aK] at he;simp only at he;cases ak:Nat.beq (fe aS.bk) 5<;>rw [ak] at he
    . simp only [aqe,ba.val.injEq] at he;exact he.2.symm
    . simp [dt.none] at he
 case extract x i=>
  split at he
  . exact (ba.i' he).2
  . cases he
 all_goals exact (ba.i' he).2
theorem ba.xl {h ab:ag} {x:Option V} {v:V} (he:ba.of h x=.val v ab) (H:ag):ba.of H x=.val v H:=by rw [(ba.i' he).1];rfl
theorem QB {o:Oper} {call:dX} {r:bJ} {h ab:ag} {v:V} (ar:e9 P o.op=false) (aw:looks o.op=false) (he:(fw P o).run call r h=.val v ab) (H:ag):(fw P o).run call r H=.val v H:=by
 obtain ⟨dst,op,type,pos,after,guard⟩:=o;cases op<;>simp only [e9] at ar<;>try (cases ar;done)
 all_goals simp only [looks] at aw<;>try (cases aw;done)
 all_goals simp only [fw] at he ⊢
 case call c=>
  obtain ⟨callee,args,types⟩:=c;cases callee<;>simp only at ar<;>try (cases ar;done)
  rename_i b;simp only [sM] at he ⊢;cases b<;>simp only at ar<;>try (cases ar;done)
  . simp only [rp] at he ⊢;cases fH:types.toList with
    | nil=>rw [fH] at he;simp [gq.none] at he
    | cons t cM=>
      cases cM with
      | cons _ _=>rw [fH] at he;simp [gq.none] at he
      | nil=>
        rw [fH] at he;simp only at he ⊢;cases aK:bf P t with
        | none=>rw [aK] at he;simp [gq.none] at he
        | some aS=>
          rw [aK] at he;rw [fH] at ar;simp only [KJ,aK] at ar;simp only [ar,aqe] at he ⊢
          split at he
          . exact ba.xl he H
          . cases he
  . exact ba.xl he H
  . exact ba.xl he H
 case move=>simp only [ba.val.injEq] at he;rw [he.1]
 case assign=>simp only [ba.val.injEq] at he;rw [he.1]
 case pick c a b=>
  split at he
  . simp only [ba.val.injEq] at he;rw [he.1]
  . cases he
 case makeFunc fn first eY=>
  cases fn<;>simp only at he ⊢<;>try (simp [dt.none] at he;done)
  rename_i f;cases aF:(first.isEmpty&&!Nat.beq f dy)<;>rw [aF] at he
  . simp only [aqe] at he ⊢;cases j1:(eY.isEmpty&&!Nat.beq f dy)<;>rw [j1] at he
    . simp [dt.none] at he
    . simp only [ap8,ba.val.injEq] at he ⊢;exact ⟨he.1,trivial⟩
  . simp only [ap8,ba.val.injEq] at he ⊢;exact ⟨he.1,trivial⟩
 case typeAssert x vv t ok=>
  cases aK:bf P t with
  | none=>rw [aK] at he;simp [dt.none] at he
  | some aS=>
    rw [aK] at he;simp only at he ⊢;cases ak:Nat.beq (fe aS.bk) 5<;>rw [ak] at he
    . exact ba.xl he H
    . simp [dt.none] at he
 case makeInterface t x=>
  cases aK:bf P t with
  | none=>rw [aK] at he;simp [dt.none] at he
  | some aS=>
    rw [aK] at he;simp only at he ⊢;cases ak:Nat.beq (fe aS.bk) 5<;>rw [ak] at he
    . simp only [aqe,ba.val.injEq] at he ⊢;exact ⟨he.1,trivial⟩
    . simp [dt.none] at he
 case extract x i=>
  split at he
  . exact ba.xl he H
  . cases he
 all_goals exact ba.xl he H
end
section
variable {P:Program}
def HF (P:Program) (E:Env) (m:Sem Value) (v:V) (h ab:ag):Prop:=
 ∃k,ab=h.new k/\True/\∀w,∃X zJ,m.run P w=.ok X {w with heap:=w.heap.push zJ}/\
  ∀az,E.le az->az (aG h.next)=some ⟨w.heap.size,0,0⟩->Rel az v X/\∀B,B<=w.heap.size->fR B az {w with heap:=w.heap.push zJ} (aG h.next) k
theorem F7 {E:Env} {h ab:ag} {ah:List V} {l:List Value} (aw:bj E ah l) (he:gJ h ah=some ab) (t:TypeId):
 ∃k,ab=h.new k/\True/\∀w,(newRow t l.toArray).run P w=.ok ⟨w.heap.size,0,none⟩ {w with heap:=w.heap.push (.cells l.toArray t)}/\
  ∀az,E.le az->az (aG h.next)=some ⟨w.heap.size,0,0⟩->∀B,B<=w.heap.size->fR B az {w with heap:=w.heap.push (.cells l.toArray t)} (aG h.next) k:=by
 unfold gJ at he;obtain ⟨av,he⟩:=eM he;rw [aqj] at av;cases he;refine ⟨_,rfl,trivial,fun w=>⟨by simp [newRow],fun az hle dO B cJ=>?_⟩⟩;have:=I3 (bj.mono hle _ _ aw) av #[]
 rw [Array.append_empty] at this;exact ⟨av,_,_,t,(0,0),dO,cJ,by simp,.inr (ap7 _),fun _=>rfl,fun h=>absurd rfl h,this⟩
theorem Zg {E:Env} {h ab:ag} {t:TypeId} {n:Nat} {bo:List (Nat × V)} {kn:List (Nat × Value)} {v:V} (ai:sB E bo kn) (he:(v' P t n).run bo h=.val v ab):
 HF P E (Instr.buildSlice t n kn.toArray) v h ab:=by
 unfold v' at he;cases aK:bf P t with
 | none=>rw [aK] at he;cases he
 | some aS=>
   rw [aK] at he;simp only at he;have hu:=fJ aK;cases bZ:aS.bk with
   | slice e=>
     rw [bZ] at he hu;simp only at he;cases ct:bf P e with
     | none=>rw [ct] at he;cases he
     | some bh=>
       rw [ct] at he;simp only at he;cases bl:bh.zero with
       | none=>rw [bl] at he;cases he
       | some z=>
         rw [bl] at he;simp only at he;cases av:(Nat.ble (n * bh.size) 1000000&&Nat.beq z.cells.length bh.size) with
         | false=>rw [av] at he;cases he
         | true=>
           rw [av] at he;simp only [ap8] at he;simp only [ap2,aqj,aqE] at av;cases aF:nJ (fun i=>some (i * bh.size,bh.size)) (ja z.cells n) bo with
           | none=>rw [aF] at he;cases he
           | some cs=>
             rw [aF] at he;simp only at he;cases aW:gJ h cs with
             | none=>rw [aW] at he;cases he
             | some aa=>
               rw [aW] at he;simp only [ba.val.injEq] at he;obtain ⟨rfl,rfl⟩:=he;obtain ⟨x,ao,pD,pE⟩:=tP (P:=P) (E:=E) ct bl ⟨#[],fun _ _=>0,0,default,#[]⟩;have s':x.cells.size=bh.size:=by rw [pE,av.2]
               have s9:=zU pD n;rw [s'] at s9;obtain ⟨b,kZ,qp⟩:=Bm (a:=(Array.range (n * bh.size)).map (x.cells[· % x.cells.size]!)) ai (by rw [s'];exact s9) aF;obtain ⟨k,g1,g2,g3⟩:=F7 (P:=P) qp aW e;refine ⟨k,g1,g2,fun w=>⟨.slice (some ⟨w.heap.size,0,none⟩) n n,.cells b e,?_,fun az hle dO=>⟨?_,?_⟩⟩⟩
               . have wT:¬16777216<n * bh.size:=by omega
                 have k3:(newRow e b).run P w=.ok ⟨w.heap.size,0,none⟩ {w with heap:=w.heap.push (.cells b e)}:=by simpa using (g3 w).1
                 by_cases a1:n * bh.size=0
                 . have Jn:Instr.fill (fun i=>some (i * bh.size,bh.size)) ((Array.range (n * bh.size)).map ((#[]:Array Value)[· % 0]!)) kn=some b:=by
                    have ax:(Array.range (n * bh.size)).map ((#[]:Array Value)[· % 0]!)=(Array.range (n * bh.size)).map (x.cells[· % x.cells.size]!):=by rw [a1];simp
                    rw [ax];exact kZ
                   have Jo:Instr.fill (fun i=>some (i * bh.size,bh.size)) ((Array.range (n * bh.size)).map (fun x=>(#[]:Array Value)[x % (#[]:Array Value).size]!)) kn=some b:=Jn;simp only [Instr.buildSlice,Sem.run_bind,hu,Result.andThen_ok,ko ct,Sem.run_ite];rw [aqa wT];simp only [Sem.run_pure,Result.andThen_ok,aqf a1];rw [Jo];simp only [Sem.run_bind,k3,Result.andThen_ok,Sem.run_pure]
                 . simp only [Instr.buildSlice,Sem.run_bind,hu,Result.andThen_ok,ko ct,Sem.run_ite];rw [aqa wT];simp only [Sem.run_pure,Result.andThen_ok,aqa a1,ao];rw [kZ];simp only [Sem.run_bind,k3,Result.andThen_ok,Sem.run_pure]
               . simp only [Rel];exact ⟨_,dO,ap7 _,by simp⟩
               . simpa using (g3 w).2 az hle dO
   | _=>rw [bZ] at he;cases he
theorem ajs {E:Env} {h ab:ag} {t:TypeId} {x y v:V} {X Y:Value} (ao:Rel E x X) (a6:Rel E y Y) (he:(xf P t).run x y h=.val v ab):
 HF P E (Instr.makeSlice t X Y) v h ab:=by
 unfold xf at he;cases aK:bf P t with
 | none=>rw [aK] at he;cases he
 | some aS=>
   rw [aK] at he;simp only at he;have hu:=fJ aK;cases bZ:aS.bk with
   | slice e=>
     rw [bZ] at he hu;simp only at he;cases ct:bf P e with
     | none=>rw [ct] at he;cases he
     | some bh=>
       rw [ct] at he;simp only at he;cases bl:bh.zero with
       | none=>rw [bl] at he;cases he
       | some z=>
         rw [bl] at he;simp only at he;cases wD:Nat.ble bh.bytes 4096 with
         | false=>rw [wD] at he;cases he
         | true=>
           rw [wD] at he;simp only [ap8,u3] at he;obtain ⟨cd,l,rfl,yP⟩:=tw he;obtain ⟨cn,c,rfl,eu⟩:=tw yP;have:=ao.jr;subst this;have:=a6.jr;subst this;obtain ⟨av,qu⟩:=kv eu;simp only [ap2,pL,aqg,aqE] at av;obtain ⟨⟨a1,aa,ae⟩,aM⟩:=av;rw [aqj] at wD;cases aW:gJ h (ja z.cells c.toNat) with
           | none=>rw [aW] at qu;cases qu
           | some a_=>
             rw [aW] at qu;simp only [ba.val.injEq] at qu;obtain ⟨rfl,rfl⟩:=qu;obtain ⟨l9,w5,pD,pE⟩:=tP (P:=P) (E:=E) ct bl ⟨#[],fun _ _=>0,0,default,#[]⟩;have s':l9.cells.size=bh.size:=by rw [pE,aM]
             have s9:=zU pD c.toNat;obtain ⟨k,g1,g2,g3⟩:=F7 (P:=P) s9 aW e;have qI:IntKind.i64.wrap l=l:=by simp only [IntKind.wrap,IntKind.bits,IntKind.signed];simp;omega
             have Ku:IntKind.i64.wrap c=c:=by simp only [IntKind.wrap,IntKind.bits,IntKind.signed];simp;omega
             have hmul:(bh.bytes:Int) * c<=4096 * 1000000:=by
              have ak:(bh.bytes:Int)<=4096:=by omega
              have:=Int.mul_le_mul_of_nonneg_right (c:=c) ak (by omega);omega
             refine ⟨k,g1,g2,fun w=>?_⟩;obtain ⟨i,aB,rQ⟩:=GS (P:=P) ct w;refine ⟨.slice (some ⟨w.heap.size,0,none⟩) l.toNat c.toNat,_,?_,fun az hle dO=>⟨?_,(g3 w).2 az hle dO⟩⟩
             . have k3:=(g3 w).1;simp only [aru] at k3;have bW:¬c<0:=by omega
               have b6:¬((bh.bytes:Int) * c>281474976710656):=by omega
               have c3:¬l<0:=by omega
               have fU:¬l>c:=by omega
               have same:(if c.toNat * bh.size=0 then (Array.range (c.toNat * bh.size)).map (fun x=>(#[]:Array Value)[x % (#[]:Array Value).size]!) else (Array.range (c.toNat * bh.size)).map (fun x=>l9.cells[x % l9.cells.size]!))=
                (Array.range (c.toNat * l9.cells.size)).map (l9.cells[· % l9.cells.size]!):=by
                rw [s'];by_cases ar:c.toNat * bh.size=0
                . rw [ar];simp
                . rw [aqa ar]
               simp only [Instr.makeSlice,Sem.run_bind,hu,Result.andThen_ok,asInt,asIntOf,Sem.run_pure,aB,qI,Ku,rQ];rw [aqa (by simp only [arp,aqg,not_or];exact ⟨⟨⟨bW,b6⟩,c3⟩,fU⟩)];simp only [Result.andThen_ok,Sem.run_bind,run_askRoom,ko ct];by_cases ar:c.toNat * bh.size=0
               . rw [aqf ar] at same;rw [aqf ar];simp only [Sem.run_pure,Result.andThen_ok,Sem.run_bind,same,k3,aru]
               . rw [aqa ar] at same;rw [aqa ar];simp only [Sem.run_pure,Result.andThen_ok,Sem.run_bind,w5,same,k3,aru]
             . simp only [Rel];exact ⟨_,dO,by omega,by simp⟩
   | _=>rw [bZ] at he;cases he
theorem abl {E:Env} {h ab:ag} {call:dX} {o:Oper} {ay:Nat} {r:bJ} {a:Act} {v:V} (bp:gU o=true) (he:(fw P o).run call r h=.val v ab) (k:RegRel0 E ay r a):
 ∃m:Sem Value,execOp a.eval o=(do pure (.value (<-m)))/\HF P E m v h ab:=by
 obtain ⟨dst,op,type,pos,after,guard⟩:=o;cases op<;>simp only [gU] at bp<;>try (cases bp;done)
 all_goals simp only [fw] at he
 case alloc t=>
  refine ⟨Instr.alloc t true (.tuple #[]),rfl,?_⟩;cases aK:bf P t with
  | none=>rw [aK] at he;simp [dt.none] at he
  | some aS=>
    rw [aK] at he;simp only at he;cases bl:aS.zero with
    | none=>rw [bl] at he;simp [dt.none] at he
    | some z=>
      rw [bl] at he;simp only at he;cases aW:gJ h z.cells with
      | none=>rw [aW] at he;cases he
      | some aa=>
        rw [aW] at he;simp only [ho,ba.val.injEq] at he;obtain ⟨rfl,rfl⟩:=he;obtain ⟨x,ao,pD,_⟩:=tP (P:=P) (E:=E) aK bl ⟨#[],fun _ _=>0,0,default,#[]⟩;obtain ⟨cN,g1,g2,g3⟩:=F7 (P:=P) pD aW t;refine ⟨cN,g1,g2,fun w=>⟨.pointer (some ⟨w.heap.size,0,none⟩),.cells x.cells t,?_,fun az hle dO=>⟨?_,?_⟩⟩⟩
        . have:=(g3 w).1;simp only [aru] at this;simp only [Instr.alloc,Sem.run_bind,ao,Result.andThen_ok,newVar,this,Sem.run_pure]
        . simp only [Rel];exact ⟨_,dO,by simp⟩
        . simpa using (g3 w).2 az hle dO
 case box t x=>
  refine ⟨Instr.box t (a.eval x),rfl,?_⟩;obtain ⟨aL,he⟩:=kv he;cases aW:gJ h ((bX x).run r).cells with
  | none=>rw [aW] at he;cases he
  | some aa=>
    rw [aW] at he;simp only [ho,ba.val.injEq] at he;obtain ⟨rfl,rfl⟩:=he;have aw:=(dD k x).cells (fun e=>by rw [e] at aL;cases aL);obtain ⟨cN,g1,g2,g3⟩:=F7 (P:=P) aw aW t;refine ⟨cN,g1,g2,fun w=>⟨.pointer (some ⟨w.heap.size,0,none⟩),.cells (a.eval x).cells t,?_,fun az hle dO=>⟨?_,?_⟩⟩⟩
    . have:=(g3 w).1;simp only [aru] at this;simp only [Instr.box,Sem.run_bind,newVar,this,Result.andThen_ok,Sem.run_pure]
    . simp only [Rel];exact ⟨_,dO,by simp⟩
    . simpa using (g3 w).2 az hle dO
 case buildSlice t n bo=>
  refine ⟨Instr.buildSlice t n (bo.map fun (i,x)=>(i,a.eval x)),rfl,?_⟩;rw [LD];exact Zg (Gq k bo.toList) he
 case makeSlice t l c=>exact ⟨Instr.makeSlice t (a.eval l) (a.eval c),rfl,ajs (dD k l) (dD k c) he⟩
 case makeMap t x=>
  cases x with
  | some _=>cases bp
  | none=>
    refine ⟨Instr.makeMap t none,rfl,?_⟩;simp only [r8,zA] at he;cases aK:bf P t with
    | none=>rw [aK] at he;cases he
    | some aS=>
      rw [aK] at he;simp only at he;cases ak:Nat.beq (fe aS.bk) 3 with
      | false=>rw [ak] at he;cases he
      | true=>
        rw [ak] at he;simp only [ap8,r5,tq] at he;simp only [ba.val.injEq] at he;obtain ⟨rfl,rfl⟩:=he;refine ⟨_,rfl,trivial,fun w=>⟨.map (some w.heap.size),.map #[] 0,?_,fun az hle dO=>⟨?_,fun B cJ=>?_⟩⟩⟩
        . simp only [Instr.makeMap,Sem.run_bind,run_newObj,Result.andThen_ok,Sem.run_pure]
        . simp only [Rel];exact ⟨_,dO,rfl⟩
        . exact ⟨_,#[],dO,cJ,by simp,rfl⟩
def Fr.hold (F:Fr) (b:aQ) (k:b8):Fr:=⟨F.w,fun bR=>if bR=b then some k else F.hW bR⟩
def Fr.free (F:Fr) (b:aQ):Fr:=⟨F.w,fun bR=>if bR=b then none else F.hW bR⟩
theorem bc.hold {F:Fr} {E:Env} {h:ag} {w:World} (s:bc F E h w) (k:b8):bc (F.hold (aG h.next) k) E (h.new k) w:=by
 have dE:=s.fresh h.next (ap7 _)
 refine ⟨fun b ak=>?_,fun b bs aA=>?_,fun b bR p p' aa ae ax aH j0=>?_,fun i aB=>s.fresh i (Nat.le_of_succ_le aB),s.frame,s.laid,fun b p n cs st aa ax=>s.base b p n cs st (by
  have cg:aG h.next≠b:=fun e=>by rw [<-e,dE] at ax;cases ax
  rwa [ag.iR,aqa cg] at aa) ax⟩
 . simp only [Fr.hold] at ak;by_cases ar:b=aG h.next
   . rw [aqf ar] at ak;cases ak
   . rw [aqa ar] at ak;rw [ag.iR,aqa (fun e=>ar e.symm)];exact s.a' b ak
 . simp only [Fr.hold] at aA;by_cases ar:b=aG h.next
   . rw [aqf ar] at aA;cases aA;exact ⟨by rw [ag.iR,aqf ar.symm],by rw [ar];exact dE,h.next,Nat.lt_succ_self _,ar⟩
   . rw [aqa ar] at aA;obtain ⟨al,au,i,aJ,bE⟩:=s.oW b bs aA;exact ⟨by rw [ag.iR,aqa (fun e=>ar e.symm)];exact al,au,i,Nat.lt_succ_of_lt aJ,bE⟩
 . have cg:aG h.next≠b:=fun e=>by rw [<-e,dE] at ax;cases ax
   have dv:aG h.next≠bR:=fun e=>by rw [<-e,dE] at aH;cases aH
   rw [ag.iR,aqa cg] at aa;rw [ag.iR,aqa dv] at ae;exact s.inj b bR p p' aa ae ax aH j0
theorem bc.link {F:Fr} {E:Env} {h:ag} {w:World} (s:bc F E h w) {b:aQ} {k:b8} (ai:F.hW b=some k) {o:Obj}
 (nb:fR F.w.heap.size (E.put b ⟨w.heap.size,0,0⟩) {w with heap:=w.heap.push o} b k):
 E.le (E.put b ⟨w.heap.size,0,0⟩)/\bc (F.free b) (E.put b ⟨w.heap.size,0,0⟩) h {w with heap:=w.heap.push o}:=by
 obtain ⟨aA,dE,i0,wM,wC⟩:=s.oW b k ai;have hle:E.le (E.put b ⟨w.heap.size,0,0⟩):=Env.nk dE;have dO:E.put b ⟨w.heap.size,0,0⟩ b=some ⟨w.heap.size,0,0⟩:=by unfold Env.put;rw [aqf rfl]
 have hold:∀bR,bR≠b->E.put b ⟨w.heap.size,0,0⟩ bR=E bR:=by intro bR ak;unfold Env.put;rw [aqa ak]
 have px:∀bR q,E bR=some q->(h.get bR)≠.dead->q.a'<w.heap.size:=by
  intro bR q ar aq;have ak:=s.at ar;cases aL:h.get bR with
  | dead=>exact absurd aL aq
  | view n cs=>rw [aL] at ak;obtain ⟨_,fi,c,el,b4,e,_,a_,_⟩:=ak;rw [e] at ar;cases ar;exact (ap5.1 a_).1
  | cells n cs cI st=>rw [aL] at ak;obtain ⟨_,fi,c,el,b4,e,_,a_,_⟩:=ak;rw [e] at ar;cases ar;exact (ap5.1 a_).1
  | iter st pos=>rw [aL] at ak;obtain ⟨fi,e,_,_,a_⟩:=ak;rw [e] at ar;cases ar;exact (ap5.1 a_).1
  | mp es clock=>rw [aL] at ak;obtain ⟨fi,a,e,_,a_,_⟩:=ak;rw [e] at ar;cases ar;exact (ap5.1 a_).1
  | fI l=>rw [aL] at ak;obtain ⟨fi,a,e,_,a_,_⟩:=ak;rw [e] at ar;cases ar;exact (ap5.1 a_).1
  | h2=>rw [aL] at ak;obtain ⟨fi,e,_,a_⟩:=ak;rw [e] at ar;cases ar;exact (ap5.1 a_).1
  | ia es=>rw [aL] at ak;obtain ⟨fi,a,c,l,e,_,a_,_⟩:=ak;rw [e] at ar;cases ar;exact (ap5.1 a_).1
  | hl src since seen last=>rw [aL] at ak;obtain ⟨fi,m,a,e,_,_,a_,_⟩:=ak;rw [e] at ar;cases ar;exact (ap5.1 a_).1
 refine ⟨hle,fun bR hN=>?_,fun bR bs gj=>?_,fun bM b1 cq cx aa ae ax aH j0=>?_,fun i aB=>?_,⟨s.frame.os,s.frame.tape,s.frame.output,?_,fun j bG=>?_⟩,s.laid,fun bM cq n cs st aa ax=>by
  by_cases bW:bM=b
  . subst bW;rw [dO] at ax;cases ax;rfl
  . rw [hold bM bW] at ax;exact s.base _ _ _ _ _ aa ax⟩
 . by_cases ar:bR=b
   . subst ar;rw [aA];exact nb
   . simp only [Fr.free,aqa ar] at hN;have a1:=(s.a' bR hN).mono hle;by_cases aq:h.get bR=.dead
     . rw [aq];trivial
     . refine fR.fc a1 fun q hQ=>?_;rw [hold bR ar] at hQ;have:=px bR q hQ aq;simp only [asd];rw [aqa (by omega)]
 . simp only [Fr.free] at gj;by_cases ar:bR=b
   . rw [aqf ar] at gj;cases gj
   . rw [aqa ar] at gj;obtain ⟨al,au,aJ⟩:=s.oW bR bs gj;exact ⟨al,by rw [hold bR ar];exact au,aJ⟩
 . by_cases bW:bM=b<;>by_cases b6:b1=b
   . exact bW.trans b6.symm
   . subst bW;rw [dO] at ax;cases ax;rw [hold b1 b6] at aH;have:=px b1 cx aH (fun e=>by rw [e] at ae;cases ae);simp only at j0;omega
   . subst b6;rw [dO] at aH;cases aH;rw [hold bM bW] at ax;have:=px bM cq ax (fun e=>by rw [e] at aa;cases aa);simp only at j0;omega
   . rw [hold bM bW] at ax;rw [hold b1 b6] at aH;exact s.inj bM b1 cq cx aa ae ax aH j0
 . rw [hold _ (fun e=>?_)]
   . exact s.fresh i aB
   . rw [wC] at e;have:=gZ e;omega
 . have:=s.frame.size;simp only [Array.size_push,Fr.free];omega
 . have aa:=s.frame.size;simp only [Fr.free,asd];rw [aqa (by simp only [Fr.free] at bG;omega)];exact s.frame.block j bG
end
section
variable {P:Program}
def ey (es:List e5) (c2:bJ) (i:Nat):bJ:=
 match es[i]? with
 | some e=>e.r
 | none=>c2
theorem yR (e:e5) (es:List e5) (aF:ag) (i:Nat):cj (e::es) aF (i+1)=cj es aF i:=by simp [cj]
theorem zT (e:e5) (es:List e5) (c2:bJ) (i:Nat):ey (e::es) c2 (i+1)=ey es c2 i:=by simp [ey]
theorem vq {ay:Nat} {all:Array Oper} {call:dX}:∀{l:List Oper} {r c2:bJ} {h aF:ag} {es:List e5},(fL P ay all l).run call r h=.ok es c2 aF->
 es.length=l.length/\cj es aF 0=h/\ey es c2 0=r/\∀j o,l[j]? =some o->∃e,es[j]? =some e/\(cG P ay all o).run call e.r e.h=.val e.v (cj es aF (j+1))/\ey es c2 (j+1)=(fQ o.dst).run e.r e.v
 | [],r,c2,h,aF,es,he=>by simp only [fL,q'.ok.injEq] at he;obtain ⟨rfl,rfl,rfl⟩:=he;exact ⟨rfl,rfl,rfl,fun j o aY=>by simp at aY⟩
 | o::os,r,c2,h,aF,es,he=>by
   simp only [fL,C8] at he;cases aa:(cG P ay all o).run call r h with
   | fail=>rw [aa] at he;cases he
   | cL _ _=>rw [aa] at he;simp only at he;cases hm:mB o.op<;>rw [hm] at he<;>cases he
   | val v a_=>
     rw [aa] at he;simp only at he;cases ae:(fL P ay all os).run call ((fQ o.dst).run r v) a_ with
     | fail=>rw [ae] at he;cases he
     | cL _ _ _ _ _=>rw [ae] at he;cases he
     | ok h4 a8 aM=>
       rw [ae] at he;simp only [q'.ok.injEq] at he;obtain ⟨rfl,rfl,rfl⟩:=he;obtain ⟨al,au,aJ,bE⟩:=vq ae;refine ⟨by simp [al],by simp [cj],by simp [ey],fun j b_ aY=>?_⟩;cases j with
       | zero=>
         simp only [aqm,ap3] at aY;subst aY;exact ⟨⟨r,h,v⟩,rfl,by rw [yR,au];exact aa,by rw [zT,aJ]⟩
       | succ j=>
         obtain ⟨e,cq,cx,eE⟩:=bE j b_ (by simpa using aY);exact ⟨e,by simpa using cq,by rw [yR];exact cx,by rw [zT];exact eE⟩
theorem Wr {ay:Nat} {all:Array Oper} {call:dX}:∀{l:List Oper} {r c2:bJ} {h aF ab:ag} {es:List e5} {v:V},(fL P ay all l).run call r h=.cL es c2 aF v ab->
 cj es aF 0=h/\ey es c2 0=r/\(∀j o,j<es.length->l[j]? =some o->∃e,es[j]? =some e/\(cG P ay all o).run call e.r e.h=.val e.v (cj es aF (j+1))/\ey es c2 (j+1)=(fQ o.dst).run e.r e.v)/\
  ∃o,l[es.length]? =some o/\mB o.op=true/\(cG P ay all o).run call c2 aF=.cL v ab
 | [],r,c2,h,aF,ab,es,v,he=>by simp [fL] at he
 | o::os,r,c2,h,aF,ab,es,v,he=>by
   simp only [fL,C8] at he;cases aa:(cG P ay all o).run call r h with
   | fail=>rw [aa] at he;cases he
   | cL x ao=>
     rw [aa] at he;simp only at he;cases hm:mB o.op with
     | false=>rw [hm] at he;cases he
     | true=>
       rw [hm] at he;simp only [ap8,q'.cL.injEq] at he;obtain ⟨rfl,rfl,rfl,rfl,rfl⟩:=he;exact ⟨rfl,rfl,fun j b_ bG=>by simp at bG,o,rfl,hm,aa⟩
   | val x a_=>
     rw [aa] at he;simp only at he;cases ae:(fL P ay all os).run call ((fQ o.dst).run r x) a_ with
     | fail=>rw [ae] at he;cases he
     | ok _ _ _=>rw [ae] at he;cases he
     | cL h4 a8 aM v1 bw=>
       rw [ae] at he;simp only [q'.cL.injEq] at he;obtain ⟨rfl,rfl,rfl,rfl,rfl⟩:=he;obtain ⟨au,aJ,bE,di,c1,eh,ju⟩:=Wr ae;refine ⟨by simp [cj],by simp [ey],fun j b_ bG aY=>?_,di,by simpa using c1,eh,ju⟩;cases j with
       | zero=>
         simp only [aqm,ap3] at aY;subst aY;exact ⟨⟨r,h,x⟩,rfl,by rw [yR,au];exact aa,by rw [zT,aJ]⟩
       | succ j=>
         obtain ⟨e,cq,cx,eE⟩:=bE j b_ (by simpa using bG) (by simpa using aY);exact ⟨e,by simpa using cq,by rw [yR];exact cx,by rw [zT];exact eE⟩
theorem RQ {ay:Nat} {d:Option Nat} (aq:e0 ay d=true) {r:bJ} {v:V} {t:Nat} (aK:t<=top):T.get .bad (aG t) ((fQ d).run r v)=if d=some t then v else T.get .bad (aG t) r:=by
 cases d with
 | none=>simp [fQ]
 | some d=>
   simp only [e0,ap2,aqA,aqj] at aq;simp only [fQ,T.iD,ap3];by_cases h:d=t
   . subst h;simp
   . rw [aqa (fun e=>h (gZ e)),aqa h]
theorem kV {ay:Nat} {all:Array Oper} {o:Oper} {call:dX} {r:bJ} {h ab:ag} {v:V} (he:(cG P ay all o).run call r h=.val v ab):e0 ay o.dst=true/\jv (b3 all o)=true:=by
 unfold cG at he;cases av:(e0 ay o.dst&&jv (b3 all o)) with
 | false=>rw [av] at he;simp [dt.none] at he
 | true=>simpa using av
theorem G8 {r:bJ} {rs:List Nat} (aO:jv rs=true) {t:Nat} (aK:t<=top):T.get .bad (aG t) (dq r rs)=if t ∈ rs then T.get .bad (aG t) r else .bad:=by
 induction rs with
 | nil=>simp [dq]
 | cons u rs bd=>
   simp only [jv,arz,ap2,aqj] at aO;simp only [dq,T.iD,aql];by_cases h:u=t
   . subst h;simp
   . rw [aqa (fun e=>h (gZ e)),bd aO.2];have ab:¬t=u:=fun e=>h e.symm;simp [ab]
theorem QP {ay:Nat} {all:Array Oper} {o:Oper} {call:dX} {r:bJ} {h ab:ag} {v:V} (he:(cG P ay all o).run call r h=.cL v ab):e0 ay o.dst=true/\jv (b3 all o)=true:=by
 unfold cG at he;cases av:(e0 ay o.dst&&jv (b3 all o)) with
 | false=>rw [av] at he;simp [dt.none] at he
 | true=>simpa using av
def HH (aC:Fr) (E:Env) (o:Oper) (a:Act) (K:Act->World->Prop) (Q:Exit->Act->World->Prop):ba->Prop
 | .val v ab=>∀az x w',E.le az->Rel az v x->bc aC az ab w'->K (a.put o.dst x) w'
 | .cL v ab=>mB o.op=true/\∀az x w',E.le az->Rel az v x->bc aC az ab w'->Q (.panic (qS x)) a w'
 | .fail=>False
theorem QQ {rd:Option Nat} {aC:Fr} {E:Env} {h:ag} {w:World} {call:dX} (bI:et P) (cX:hb P call) (dJ:hs P call) {all:Array Oper} {i:Nat} {o:Oper} (aB:all[i]? =some o) {ay:Nat} {r:bJ} {a:Act}
 (hO:e0 ay o.dst=true/\jv (b3 all o)=true) (qF:a.tmps.size=ay) (k8:∀t ∈ b3 all o,Rel E (T.get .bad (aG t) r) (a.tmps.getD t undef)) (s:bc aC E h w)
 {K:Act->World->Prop} {Q:Exit->Act->World->Prop} (ai:HH aC E o a K Q ((cG P ay all o).run call r h)):wpOpIn (cc rd) 0 P all Q i K a w:=by
 obtain ⟨aq,aO⟩:=hO
 have k:RegRel0 E ay (dq r (b3 all o)) a:=⟨qF,fun t aK=>by
  rw [G8 aO aK];by_cases hm:t ∈ b3 all o
  . rw [aqf hm];exact k8 t hm
  . rw [aqa hm];simp [Rel]⟩
 unfold cG at ai;rw [show (e0 ay o.dst&&jv (b3 all o))=true from by rw [aq,aO];rfl] at ai;simp only [ap8] at ai;have wanted:HH aC E o a K Q ((fw P o).run call (dq r (b3 all o)) h)->Region.wanted o (yielded all a.tmps)=true->wpOpIn (cc rd) 0 P all Q i K a w:=by
  intro aa hw;simp only [wpOpIn,aB,hw,aqB];cases aD:(fw P o).run call (dq r (b3 all o)) h with
  | fail=>rw [aD] at aa;exact aa.elim
  | val v ab=>rw [aD] at aa;exact QD bI cX dJ aD k s aa
  | cL v ab=>rw [aD] at aa;exact QA bI cX aa.1 aD k s aa.2
 have WM:HH aC E o a K Q (.val (.tuple []) h)->Region.wanted o (yielded all a.tmps)=false->wpOpIn (cc rd) 0 P all Q i K a w:=by intro aa hw;simp only [wpOpIn,aB,hw,aqd,aqD];exact ⟨fun _ _=>trivial,aa E undef w (Env.le.refl E) (by simp only [Rel];exact ⟨#[],rfl,rfl⟩) s⟩
 cases aL:o.guard with
 | none=>
   rw [aL] at ai;exact wanted ai (by simp [Region.wanted,aL])
 | some oK=>
   obtain ⟨j,want⟩:=oK;rw [aL] at ai;simp only at ai;cases bG:all[j]? with
   | none=>rw [bG] at ai;exact ai.elim
   | some g=>
     rw [bG] at ai;simp only at ai;cases jk:g.dst with
     | none=>rw [jk] at ai;exact ai.elim
     | some d=>
       rw [jk] at ai;simp only at ai;cases av:(Nat.blt d ay&&Nat.ble d top) with
       | false=>rw [av] at ai;exact ai.elim
       | true=>
         rw [av] at ai;simp only [ap8,jD,pr] at ai;simp only [ap2,aqA,aqj] at av;obtain ⟨g1,g2⟩:=I_ k bG jk av.1 av.2;cases bz:T.get .bad (aG d) (dq r (b3 all o))<;>rw [bz] at ai<;>simp only at ai<;>try (exact ai.elim)
         . rename_i b;have a6:=g1 b bz;cases ak:(bif want then b else !b) with
           | true=>
             rw [ak] at ai;simp only [ap8] at ai;refine wanted ai ?_;simp only [Region.wanted,aL,a6];cases want<;>cases b<;>simp_all
           | false=>
             rw [ak] at ai;simp only [aqe] at ai;refine WM ai ?_;simp only [Region.wanted,aL,a6];cases want<;>cases b<;>simp_all
         . rename_i ah;have a6:=g2 ah bz;refine WM ai ?_;simp only [Region.wanted,aL,a6];rfl
theorem ry {rd:Option Nat} {aC:Fr} {E:Env} {h ab:ag} {w:World} {call:dX} (bI:et P) (cX:hb P call) (dJ:hs P call) {all:Array Oper} {i:Nat} {o:Oper} (aB:all[i]? =some o) {ay:Nat} {r:bJ} {a:Act} {v:V}
 (he:(cG P ay all o).run call r h=.val v ab) (qF:a.tmps.size=ay) (k8:∀t ∈ b3 all o,Rel E (T.get .bad (aG t) r) (a.tmps.getD t undef)) (s:bc aC E h w)
 {K:Act->World->Prop} {Q:Exit->Act->World->Prop} (dM:∀az x w',E.le az->Rel az v x->bc aC az ab w'->K (a.put o.dst x) w'):wpOpIn (cc rd) 0 P all Q i K a w:=
 QQ bI cX dJ aB (kV he) qF k8 s (by rw [he];exact dM)
theorem abN {rd:Option Nat} {aC:Fr} {E:Env} {h ab:ag} {w:World} {call:dX} (bI:et P) (cX:hb P call) (dJ:hs P call) {all:Array Oper} {i:Nat} {o:Oper} (aB:all[i]? =some o) {ay:Nat} {r:bJ} {a:Act} {v:V}
 (he:(cG P ay all o).run call r h=.cL v ab) (hm:mB o.op=true) (qF:a.tmps.size=ay) (k8:∀t ∈ b3 all o,Rel E (T.get .bad (aG t) r) (a.tmps.getD t undef)) (s:bc aC E h w)
 {K:Act->World->Prop} {Q:Exit->Act->World->Prop} (cD:∀az x w',E.le az->Rel az v x->bc aC az ab w'->Q (.panic (qS x)) a w'):wpOpIn (cc rd) 0 P all Q i K a w:=
 QQ bI cX dJ aB (QP he) qF k8 s (by rw [he];exact ⟨hm,cD⟩)
theorem we {ay:Nat} {all:Array Oper} {o:Oper} {call:dX} {r:bJ} {h ab:ag} {v:V} (ar:e9 P o.op=false) (he:(cG P ay all o).run call r h=.val v ab):
 ab=h/\(looks o.op=false->∀H,(cG P ay all o).run call r H=.val v H):=by
 obtain ⟨aq,aO⟩:=kV he;have cA:(e0 ay o.dst&&jv (b3 all o))=true:=by rw [aq,aO];rfl
 have key:cG P ay all o=(match o.guard with
  | none=>⟨jD none (fw P o) (b3 all o)⟩
  | some (j,want)=>match all[j]? with
    | some g=>match g.dst with
      | some d=>bif Nat.blt d ay&&Nat.ble d top then ⟨jD (some (pr (aG d),want)) (fw P o) (b3 all o)⟩ else dt.none
      | none=>dt.none
    | none=>dt.none):=by
  unfold cG;rw [cA];rfl
 rw [key] at he ⊢;cases aL:o.guard with
 | none=>
   rw [aL] at he;exact ⟨QC ar he,fun aw H=>QB ar aw he H⟩
 | some oK=>
   obtain ⟨j,want⟩:=oK;rw [aL] at he;simp only at he ⊢;cases bG:all[j]? with
   | none=>rw [bG] at he;simp [dt.none] at he
   | some g=>
     rw [bG] at he;simp only at he ⊢;cases jk:g.dst with
     | none=>rw [jk] at he;simp [dt.none] at he
     | some d=>
       rw [jk] at he;simp only at he ⊢;cases av:(Nat.blt d ay&&Nat.ble d top) with
       | false=>rw [av] at he;simp [dt.none] at he
       | true=>
         rw [av] at he;simp only [ap8,jD] at he ⊢;cases bz:(pr (aG d)).run (dq r (b3 all o))<;>rw [bz] at he<;>simp only at he ⊢<;>try (cases he;done)
         . rename_i b;cases ak:(bif want then b else !b)<;>rw [ak] at he<;>simp only [ap8,aqe] at he ⊢
           . simp only [ba.val.injEq] at he ⊢;exact ⟨he.2.symm,fun _ H=>⟨he.1,trivial⟩⟩
           . exact ⟨QC ar he,fun aw H=>QB ar aw he H⟩
         . simp only [ba.val.injEq] at he ⊢;exact ⟨he.2.symm,fun _ H=>⟨he.1,trivial⟩⟩
theorem NR {op:dt} {call:dX} {es:List e5} {aF:ag} {r:bJ} {v:V}:∀{bm:List Nat},D0 op call es aF r v bm=true->∀s ∈ bm,∃ab,op.run call r (cj es aF s)=.val v ab
 | [],_,s,h=>by simp at h
 | gm::bm,he,s,hm=>by
   simp only [D0,ap2] at he;simp only [aql] at hm;rcases hm with rfl | hm
   . have aa:=he.1;cases aD:op.run call r (cj es aF s) with
     | fail=>rw [aD] at aa;cases aa
     | cL _ _=>rw [aD] at aa;cases aa
     | val cQ ab=>
       rw [aD] at aa;rw [IS aa];exact ⟨ab,rfl⟩
   . exact NR he.2 s hm
theorem H2 {ay:Nat} {all:Array Oper} {dY aI eF:List Nat} {call:dX} {es:List e5} {aF:ag}:∀{l:List Oper} {i:Nat},(sI P ay all dY aI eF i l).run call es aF=true->
 ∀j o,l[j]? =some o->looks o.op=true->e9 P o.op=false->∀e,es[posOf aI (i+j)]? =some e->∀s ∈ eF,tm P dY all.toList aI (i+j) ((dY[i+j]?).getD 0) s=true->∃ab,(cG P ay all o).run call e.r (cj es aF s)=.val e.v ab
 | [],_,_,j,o,aY,_,_=>by simp at aY
 | b_::os,i,he,j,o,aY,aw,ar=>by
   simp only [sI] at he;cases j with
   | zero=>
     simp only [aqm,ap3] at aY;subst aY;rw [aw,ar] at he;simp only [asf,aq1,ap8,ap2,NS] at he;have aa:=he.1;intro e rM s aO hm
     . rw [aro] at rM;rw [rM] at aa;exact NR aa s (arK.2 ⟨aO,by simpa using hm⟩)
   | succ j=>
     have rest:(sI P ay all dY aI eF (i+1) os).run call es aF=true:=by
      cases av:(looks b_.op&&!e9 P b_.op) with
      | false=>rw [av] at he;exact he
      | true=>rw [av] at he;simp only [ap8,ap2] at he;exact he.2
     have:=H2 rest j o (by simpa using aY) aw ar;rw [show i + (j+1)=i+1+j from by omega];exact this
theorem zu {aI:List Nat}:∀{l:List Oper} {i j:Nat} {o:Oper},l[j]? =some o->ep P o=true->posOf aI (i+j) ∈ h_ P aI i l
 | [],_,j,o,h,_=>by simp at h
 | b_::os,i,j,o,h,he=>by
   simp only [h_];cases j with
   | zero=>
     simp only [aqm,ap3] at h;subst h;rw [he];simp
   | succ j=>
     have:=zu (aI:=aI) (i:=i+1) (by simpa using h) he;rw [show i + (j+1)=i+1+j from by omega];cases ep P b_ with
     | true=>simp [this]
     | false=>exact this
theorem FW {aI:List Nat}:∀{l:List Oper} {i:Nat},i+l.length ∈ h_ P aI i l
 | [],_=>by simp [h_]
 | o::os,i=>by
   have:=FW (aI:=aI) (l:=os) (i:=i+1);simp only [h_,aqb];rw [show i + (os.length+1)=i+1+os.length from by omega];cases ep P o with
   | true=>simp [this]
   | false=>exact this
theorem u2 {aI:List Nat}:∀{l:List Oper} {i s:Nat},s ∈ h_ P aI i l->s=i+l.length\/∃j o,l[j]? =some o/\ep P o=true/\s=posOf aI (i+j)
 | [],i,s,h=>by simp only [h_,aqU] at h;exact .inl (by simpa using h)
 | o::os,i,s,h=>by
   simp only [h_] at h;have rest:s ∈ h_ P aI (i+1) os->s=i + (o::os).length\/∃j b_,(o::os)[j]? =some b_/\ep P b_=true/\s=posOf aI (i+j):=by
    intro h;rcases u2 h with h | ⟨j,b_,aa,ae,aM⟩
    . exact .inl (by simp only [aqb];omega)
    . exact .inr ⟨j+1,b_,by simpa using aa,ae,by rw [aM];congr 1;omega⟩
   cases av:ep P o with
   | true=>
     rw [av] at h;simp only [ap8,aql] at h;rcases h with h | h
     . exact .inr ⟨0,o,rfl,av,h⟩
     . exact rest h
   | false=>rw [av] at h;exact rest h
theorem abe {c:Bool} {f:V->V->ag->ba} {x y v:V} {h ab:ag} (he:(bif c then (⟨f⟩:Ar) else ⟨fun _ _ _=>.fail⟩).run x y h=.val v ab):c=true/\f x y h=.val v ab:=by
 cases c with
 | true=>exact ⟨rfl,he⟩
 | false=>cases he
theorem abm {o:Oper} {call:dX} {r:bJ} {h ab:ag} {v:V} (bp:gU o=true) (he:(fw P o).run call r h=.val v ab):∃k,ab=h.new k/\True:=by
 have cells:∀{ah:List V} {aa:ag},gJ h ah=some aa->∃k,aa=h.new k/\True:=by intro ah aa he;unfold gJ at he;obtain ⟨av,he⟩:=eM he;cases he;exact ⟨_,rfl,trivial⟩
 obtain ⟨dst,op,type,pos,after,guard⟩:=o;cases op<;>simp only [gU] at bp<;>try (cases bp;done)
 all_goals simp only [fw] at he
 case alloc t=>
  cases aK:bf P t with
  | none=>rw [aK] at he;simp [dt.none] at he
  | some aS=>
    rw [aK] at he;simp only at he;cases bl:aS.zero with
    | none=>rw [bl] at he;simp [dt.none] at he
    | some z=>
      rw [bl] at he;simp only at he;cases aW:gJ h z.cells with
      | none=>rw [aW] at he;cases he
      | some aa=>
        rw [aW] at he;simp only [ho,ba.val.injEq] at he;obtain ⟨_,rfl⟩:=he;exact cells aW
 case box t x=>
  obtain ⟨aL,he⟩:=kv he;cases aW:gJ h ((bX x).run r).cells with
  | none=>rw [aW] at he;cases he
  | some aa=>
    rw [aW] at he;simp only [ho,ba.val.injEq] at he;obtain ⟨_,rfl⟩:=he;exact cells aW
 case buildSlice t n bo=>
  unfold v' at he;cases aK:bf P t with
  | none=>rw [aK] at he;cases he
  | some aS=>
    rw [aK] at he;simp only at he;cases bZ:aS.bk<;>rw [bZ] at he<;>simp only at he<;>try (cases he;done)
    rename_i e;cases ct:bf P e with
    | none=>rw [ct] at he;cases he
    | some bh=>
      rw [ct] at he;simp only at he;cases bl:bh.zero with
      | none=>rw [bl] at he;cases he
      | some z=>
        rw [bl] at he;simp only at he;cases av:(Nat.ble (n * bh.size) 1000000&&Nat.beq z.cells.length bh.size) with
        | false=>rw [av] at he;cases he
        | true=>
          rw [av] at he;simp only [ap8] at he;cases aF:nJ (fun i=>some (i * bh.size,bh.size)) (ja z.cells n) ((vc bo.toList).run r) with
          | none=>rw [aF] at he;cases he
          | some cs=>
            rw [aF] at he;simp only at he;cases aW:gJ h cs with
            | none=>rw [aW] at he;cases he
            | some aa=>
              rw [aW] at he;simp only [ba.val.injEq] at he;obtain ⟨_,rfl⟩:=he;exact cells aW
 case makeSlice t l c=>
  unfold xf at he
  split at he
  rotate_left
  . cases he
  split at he
  rotate_left
  . cases he
  split at he
  rotate_left
  . cases he
  split at he
  rotate_left
  . cases he
  obtain ⟨_,he⟩:=abe he;simp only [u3] at he;obtain ⟨_,_,_,he⟩:=tw he;obtain ⟨_,_,_,he⟩:=tw he;obtain ⟨_,he⟩:=kv he
  split at he
  . rename_i aW;simp only [ba.val.injEq] at he;obtain ⟨_,rfl⟩:=he;exact cells aW
  . cases he
 case makeMap t x=>
  cases x with
  | some _=>cases bp
  | none=>
    simp only [r8,zA] at he;cases aK:bf P t with
    | none=>rw [aK] at he;cases he
    | some aS=>
      rw [aK] at he;simp only at he;cases ak:Nat.beq (fe aS.bk) 3 with
      | false=>rw [ak] at he;cases he
      | true=>
        rw [ak] at he;simp only [ap8,r5,tq] at he;simp only [ba.val.injEq] at he;exact ⟨_,he.2.symm,trivial⟩
theorem agd {o:Oper} (bp:gU o=true):e9 P o.op=true:=by obtain ⟨dst,op,type,pos,after,guard⟩:=o;cases op<;>simp only [gU] at bp<;>first | (cases bp;done) | rfl
theorem QS {ay:Nat} {all:Array Oper} {o:Oper} {call:dX} {r:bJ} {h ab:ag} {v:V} (he:(cG P ay all o).run call r h=.val v ab):
 ((fw P o).run call (dq r (b3 all o)) h=.val v ab/\∀E a,RegRel0 E ay (dq r (b3 all o)) a->Region.wanted o (yielded all a.tmps)=true)\/
 (ab=h/\∀H,(cG P ay all o).run call r H=.val v H):=by
 obtain ⟨aq,aO⟩:=kV he;have cA:(e0 ay o.dst&&jv (b3 all o))=true:=by rw [aq,aO];rfl
 have key:cG P ay all o=(match o.guard with
  | none=>⟨jD none (fw P o) (b3 all o)⟩
  | some (j,want)=>match all[j]? with
    | some g=>match g.dst with
      | some d=>bif Nat.blt d ay&&Nat.ble d top then ⟨jD (some (pr (aG d),want)) (fw P o) (b3 all o)⟩ else dt.none
      | none=>dt.none
    | none=>dt.none):=by
  unfold cG;rw [cA];rfl
 rw [key] at he ⊢;cases aL:o.guard with
 | none=>
   rw [aL] at he;exact .inl ⟨he,fun E a _=>by simp [Region.wanted,aL]⟩
 | some oK=>
   obtain ⟨j,want⟩:=oK;rw [aL] at he;simp only at he ⊢;cases bG:all[j]? with
   | none=>rw [bG] at he;simp [dt.none] at he
   | some g=>
     rw [bG] at he;simp only at he ⊢;cases jk:g.dst with
     | none=>rw [jk] at he;simp [dt.none] at he
     | some d=>
       rw [jk] at he;simp only at he ⊢;cases av:(Nat.blt d ay&&Nat.ble d top) with
       | false=>rw [av] at he;simp [dt.none] at he
       | true=>
         rw [av] at he;simp only [ap8,jD] at he ⊢;have qs:=av;simp only [ap2,aqA,aqj] at qs;cases bz:(pr (aG d)).run (dq r (b3 all o))<;>rw [bz] at he<;>simp only at he ⊢<;>try (cases he;done)
         . rename_i b;cases ak:(bif want then b else !b)<;>rw [ak] at he<;>simp only [ap8,aqe] at he ⊢
           . simp only [ba.val.injEq] at he ⊢;exact .inr ⟨he.2.symm,fun H=>⟨he.1,trivial⟩⟩
           . refine .inl ⟨he,fun E a k=>?_⟩;obtain ⟨g1,_⟩:=I_ k bG jk qs.1 qs.2;have a6:=g1 b bz;simp only [Region.wanted,aL,a6];cases want<;>cases b<;>simp_all
         . simp only [ba.val.injEq] at he ⊢;exact .inr ⟨he.2.symm,fun H=>⟨he.1,trivial⟩⟩
theorem QR {ay:Nat} {all:Array Oper} {o:Oper} {call:dX} {r:bJ} {h ab:ag} {v:V} (bp:gU o=true) (he:(cG P ay all o).run call r h=.val v ab):
 (∃k,ab=h.new k/\True)\/(ab=h/\∀H,(cG P ay all o).run call r H=.val v H):=by
 rcases QS he with ⟨aa,_⟩ | aa
 . exact .inl (abm bp aa)
 . exact .inr aa
theorem abL {rd:Option Nat} {F:Fr} {E:Env} {h ab H:ag} {w:World} {call:dX} {all:Array Oper} {i:Nat} {o:Oper} (aB:all[i]? =some o) (bp:gU o=true) {ay:Nat} {r:bJ} {a:Act} {v:V}
 (he:(cG P ay all o).run call r h=.val v ab) (qF:a.tmps.size=ay) (k8:∀t ∈ b3 all o,Rel E (T.get .bad (aG t) r) (a.tmps.getD t undef)) (s:bc F E H w)
 (J1:ab.next≠h.next) (ai:F.hW (aG h.next)=some (ab.get (aG h.next)))
 {K:Act->World->Prop} {Q:Exit->Act->World->Prop} (dM:∀az x w',E.le az->Rel az v x->bc (F.free (aG h.next)) az H w'->K (a.put o.dst x) w'):wpOpIn (cc rd) 0 P all Q i K a w:=by
 obtain ⟨aq,aO⟩:=kV he
 have k:RegRel0 E ay (dq r (b3 all o)) a:=⟨qF,fun t aK=>by
  rw [G8 aO aK];by_cases hm:t ∈ b3 all o
  . rw [aqf hm];exact k8 t hm
  . rw [aqa hm];simp [Rel]⟩
 obtain ⟨eG,hw⟩:(fw P o).run call (dq r (b3 all o)) h=.val v ab/\Region.wanted o (yielded all a.tmps)=true:=by
  rcases QS he with ⟨aa,ae⟩ | ⟨aa,_⟩
  . exact ⟨aa,ae E a k⟩
  . exact absurd (by rw [aa]) J1
 obtain ⟨m,ao,cN,al,au,aJ⟩:=abl bp eG k;simp only [wpOpIn,aB,hw,aqB];obtain ⟨X,zJ,cq,cx⟩:=aJ w;rw [al,ag.iR,aqf rfl] at ai;have dO:E.put (aG h.next) ⟨w.heap.size,0,0⟩ (aG h.next)=some ⟨w.heap.size,0,0⟩:=by unfold Env.put;rw [aqf rfl]
 have hle:E.le (E.put (aG h.next) ⟨w.heap.size,0,0⟩):=Env.nk (s.oW _ _ ai).2.1;obtain ⟨a8,b'⟩:=cx _ hle dO;have cu:F.w.heap.size<=w.heap.size:=s.frame.size;obtain ⟨_,kf⟩:=s.link ai (o:=zJ) (b' _ cu);refine ⟨fun _ _=>trivial,?_⟩;rw [qZ (by intro c h;have:=bp;unfold gU at this;rw [h] at this;cases this),ao,Sem.run_bind,cq];exact dM _ X _ hle a8 kf
end
end
end Go.Proofs.YtgmhjhgoamjeeaaGreatDoor.a7
