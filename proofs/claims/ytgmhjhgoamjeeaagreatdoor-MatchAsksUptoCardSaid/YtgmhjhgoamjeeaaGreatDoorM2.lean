/- The abstract machine and its walks (a verified interpreter of the model's code: plain definitions and lemmas, no condition). Printed by a program from longer texts: names made short. -/
import Derived.Test.YtgmhjhgoamjeeaaGreatDoorM1
import Derived.LaidEqlPtr
import Derived.RangeFuncLeaves
import Derived.RecoverIn
import Derived.OrdersIn
set_option linter.unusedSectionVars false
set_option linter.unusedSimpArgs false
set_option linter.unusedVariables false
set_option maxHeartbeats 64000000
noncomputable section
namespace Go.Proofs.YtgmhjhgoamjeeaaGreatDoor.aZ
section
open Go Go.RowKit
variable [Lay]
theorem aO.mf:∀{p q:aO},aO.gM p q=true->p=q
 | .z,.z,_=>rfl
 | .l p,.l q,h=>by rw [aO.mf (p:=p) (q:=q) h]
 | .r p,.r q,h=>by rw [aO.mf (p:=p) (q:=q) h]
 | .z,.l _,h=>by cases h
 | .z,.r _,h=>by cases h
 | .l _,.z,h=>by cases h
 | .l _,.r _,h=>by cases h
 | .r _,.z,h=>by cases h
 | .r _,.l _,h=>by cases h
theorem aO.AK:∀p:aO,aO.gM p p=true
 | .z=>rfl
 | .l p=>aO.AK p
 | .r p=>aO.AK p
section
variable {P:Program}
theorem Uq {az:Fr} {E:Env} {h:ae} {w:World} (s:ba az E h w) {b:aO} {p:js} (ai:E b=some p) (ah:(h.get b).FM=true):(h.get b).own=true/\∃c t,w.heap[p.aS]? =some (.cells c t (0,0)):=by
 have aA:=s.at ai;cases aG:h.get b<;>rw [aG] at ah<;>try (cases ah;done)
 rename_i n cs ct st;rw [aG] at aA;obtain ⟨_,p',c,el,b5,av,_,yo,_,cD,_⟩:=aA;rw [ai] at av;cases av;have:st=false:=by simpa [b'.FM] using ah
 rw [cD this] at yo;exact ⟨rfl,c,el,yo⟩
theorem UF {t:TypeId} (h:jk P t=true):∃e j,P.underlying t=some (.pointer e)/\P.info? e=some j/\j.size≠0:=by
 unfold jk at h;cases aE:bc P t with
 | none=>rw [aE] at h;cases h
 | some aP=>
   rw [aE] at h;simp only at h;cases hu:aP.bj<;>rw [hu] at h<;>simp only at h<;>try (cases h;done)
   rename_i e;cases he:bc P e with
   | none=>rw [he] at h;cases h
   | some bf=>
     rw [he] at h;simp only at h;obtain ⟨_,_,ab,_⟩:=u' aE;obtain ⟨j,g1,_,g3,_⟩:=u' he;refine ⟨e,j,by rw [ab,hu],g1,fun c4=>?_⟩;rw [g3,c4] at h;cases h
theorem akI {t:TypeId} (h:jk P t=true) (w:World):∃e,(underlying t).run P w=.ok (.pointer e) w:=by obtain ⟨e,_,U,_⟩:=UF h;exact ⟨e,LM U w⟩
theorem alF {t e:TypeId} {w:World} (hu:(underlying t).run P w=.ok (.pointer e) w) (b:Bool) (v:Value):(Instr.checkKey b 10000 t v).run P w=.ok () w:=by show (Instr.checkKey b (9999+1) t v).run P w=.ok () w;unfold Instr.checkKey;rw [Sem.run_bind,hu];rfl
theorem UD {az:Fr} {E:Env} {h:ae} {w:World} (s:ba az E h w) {t:TypeId} (aE:jk P t=true) {x y:V} {X Y:Value} {b:Bool} (he:jF h x y=some b) (ao:Rel E x X) (a8:Rel E y Y):
 (∃a c,X=.pointer (some a)/\Y=.pointer (some c))/\∀d,(Op.equalIn (d+1) t X Y).run P w=.ok b w:=by
 obtain ⟨e,j,ai,cp,cn⟩:=UF aE;unfold jF at he
 split at he
 case h_2=>cases he
 rename_i bR c8
 split at he
 case h_2=>cases he
 rename_i b7 cy;simp only [Rel] at ao a8;obtain ⟨p,kM,rfl⟩:=ao;obtain ⟨q,ih,rfl⟩:=a8;refine ⟨⟨_,_,rfl,rfl⟩,fun d=>?_⟩;cases heq:aO.gM bR b7 with
 | true=>
   rw [heq] at he;simp only [apt,apq] at he;have:=aO.mf heq;subst this;rw [kM] at ih;cases ih;have ah:b=decide (c8=cy):=by
    rw [<-he];by_cases h:c8=cy
    . subst h;simp
    . rw [ap_ h,<-ap1,apT];exact h
   have key:(sameAddr ⟨p.aS,p.base+c8,none⟩ ⟨p.aS,p.base+cy,none⟩).run P w=.ok b w:=by
    rw [ah];by_cases h:c8=cy
    . subst h;simpa using run_sameAddr_same w (⟨p.aS,p.base+c8,none⟩:Addr)
    . have cT:((⟨p.aS,p.base+c8,none⟩:Addr) == ⟨p.aS,p.base+cy,none⟩)=false:=by
       rw [aqK];intro e;injection e with _ aK _
       omega
      simp [sameAddr,cT,h]
   simp [Op.equalIn,run_underlying ai,sizeOf,typeInfo,cp,cn,key]
 | false=>
   rw [heq] at he;simp only [apA] at he;obtain ⟨au,he⟩:=eJ he;simp only [apn] at au;cases he;obtain ⟨K9,bQ,t1,o1⟩:=Uq s kM au.1;obtain ⟨K',b2,t2,Jo⟩:=Uq s ih au.2;have cT:(⟨p.aS,p.base+c8,none⟩:Addr)≠⟨q.aS,q.base+cy,none⟩:=by
    intro e;injection e with av _ _
    have:=s.inj bR b7 p q K9 K' kM ih av;subst this;rw [aO.AK] at heq;cases heq
   simp [Op.equalIn,run_underlying ai,sizeOf,typeInfo,cp,cn,run_sameAddr_other w cT o1 Jo]
theorem UC {az:Fr} {E:Env} {h:ae} {w:World} (s:ba az E h w) {op:BinOp} {t:TypeId} {neg:Bool} (lP:w5 P op t=some neg) {x y:V} {ji jj:Operand} {X Y:Value} {b:Bool} (he:jF h x y=some b) (ao:Rel E x X) (a8:Rel E y Y):
 ∃Z,(do eqGuard op t ji jj X Y;binOp op t X Y:Sem Value).run P w=.ok Z w/\Rel E (.bool (bif neg then !b else b)) Z:=by
 unfold w5 at lP;have main:jk P t=true->((op=.eql/\neg=false)\/(op=.neq/\neg=true))->∃Z,(do eqGuard op t ji jj X Y;binOp op t X Y:Sem Value).run P w=.ok Z w/\Rel E (.bool (bif neg then !b else b)) Z:=by
  intro aE mq;obtain ⟨⟨a,c,rfl,rfl⟩,cS⟩:=UD s aE he ao a8;have aG:=fun (o:BinOp)=>D0 (P:=P) (op:=o) (t:=t) (x:=ji) (y:=jj) (X:=.pointer (some a)) (Y:=.pointer (some c)) (by simp) (.inl (by simp)) w;have av:(Op.equal t (.pointer (some a)) (.pointer (some c))).run P w=.ok b w:=cS 9999;rcases mq with ⟨rfl,rfl⟩ | ⟨rfl,rfl⟩
  . refine ⟨.bool b,?_,by simp [Rel]⟩;rw [Sem.run_bind,aG,Result.andThen_ok,binOp_eql (X:=.pointer (some a)) True.intro,Sem.run_bind,av];rfl
  . refine ⟨.bool (!b),?_,by simp [Rel]⟩;rw [Sem.run_bind,aG,Result.andThen_ok,binOp_neq (X:=.pointer (some a)) True.intro,Sem.run_bind,av];rfl
 cases op<;>simp only at lP<;>try (cases lP;done)
 . obtain ⟨U,ab⟩:=eJ lP;cases ab;exact main U (.inl ⟨rfl,rfl⟩)
 . obtain ⟨U,ab⟩:=eJ lP;cases ab;exact main U (.inr ⟨rfl,rfl⟩)
end
section
variable {P:Program}
def xE (P:Program) (w:World) (E:Env) (da:TypeId) (e:dJ):Prop:=
 ∀k bp K nI b,e.run k bp=some b->Rel E k K->Rel E bp nI->(Op.equal da K nI).run P w=.ok b w/\(b=true->nI=K/\Instr.sameBits 10000 K K=true)
theorem akH {az:Fr} {E:Env} {h:ae} {w:World} (s:ba az E h w) {da:TypeId} (aE:jk P da=true):xE P w E da ⟨jF h⟩:=by
 intro k bp K nI b he ao a8;obtain ⟨⟨a,c,rfl,rfl⟩,cS⟩:=UD s aE he ao a8;refine ⟨cS 9999,fun ah=>?_⟩;subst ah;simp only [jF] at he
 split at he
 case h_2=>cases he
 split at he
 case h_2=>cases he
 rename_i bR c8 _ b7 cy;simp only [Rel] at ao a8;obtain ⟨p,kM,ao⟩:=ao;obtain ⟨q,ih,a8⟩:=a8;cases heq:aO.gM bR b7 with
 | false=>
   rw [heq] at he;simp only [apA] at he;obtain ⟨_,he⟩:=eJ he;cases he
 | true=>
   rw [heq] at he;simp only [apt,apq] at he;have:=aO.mf heq;subst this;rw [kM] at ih;cases ih;have:=aqj he;subst this;rw [ao,a8];exact ⟨rfl,by simp [Instr.sameBits]⟩
theorem Qx {w:World} {E:Env} {da:TypeId} {e:dJ} (iL:xE P w E da e) {k:V} {K:Value} (aA:Rel E k K):∀(es:List cb) (l:List MapEntry) (r:Option V) (i:Nat),j_ e k es=some r->dq E es l->
 ∃R,(Instr.findAsking da K l i).run P w=.ok R w/\(match r with
  | none=>R=none
  | some v=>∃j Y,R=some (j,Y)/\Rel E v Y)
 | [],l,r,i,h,aD=>by simp only [dq] at aD;subst aD;simp only [j_,apq] at h;subst h;exact ⟨none,rfl,rfl⟩
 | m::ms,l,r,i,h,aD=>by
   obtain ⟨dG,es,rfl,U,ab,aI,bq⟩:=aD;simp only [j_] at h;cases aW:e.run k m.k with
   | none=>rw [aW] at h;cases h
   | some b=>
     rw [aW] at h;simp only at h;obtain ⟨aj,an⟩:=iL _ _ _ _ _ aW aA U;cases b with
     | true=>
       simp only [apt,apq] at h;subst h;exact ⟨some (i,dG.val),by simp [Instr.findAsking,aj],i,dG.val,rfl,ab⟩
     | false=>
       simp only [apA] at h;obtain ⟨R,g1,g2⟩:=Qx iL aA ms es r (i+1) h bq;exact ⟨R,by simp [Instr.findAsking,aj,g1],g2⟩
theorem UG {w:World} {E:Env} {da:TypeId} {e:dJ} (iL:xE P w E da e) {k v:V} {K X:Value} (aA:Rel E k K) (bA:Rel E v X) (clock:Nat):∀(es:List cb) (l:List MapEntry) (r:List cb × Bool) (i:Nat),k1 e k v clock es=some r->dq E es l->
 (r.2=true->(Instr.findAsking da K l i).run P w=.ok none w/\dq E r.1 (l++[⟨K,X,clock⟩]))/\
 (r.2=false->∃j dG Y,(Instr.findAsking da K l i).run P w=.ok (some (i+j,Y)) w/\l[j]? =some dG/\Instr.sameBits 10000 dG.key K=true/\dq E r.1 (l.modify j fun dG=>{dG with key:=K,val:=X}))
 | [],l,r,i,h,aD=>by simp only [dq] at aD;subst aD;simp only [k1,apq] at h;subst h;exact ⟨fun _=>⟨rfl,_,_,rfl,aA,bA,rfl,rfl⟩,fun h=>by cases h⟩
 | m::ms,l,r,i,h,aD=>by
   obtain ⟨dG,es,rfl,U,ab,aI,bq⟩:=aD;simp only [k1] at h;cases aW:e.run k m.k with
   | none=>rw [aW] at h;cases h
   | some b=>
     rw [aW] at h;simp only at h;obtain ⟨aj,an⟩:=iL _ _ _ _ _ aW aA U;cases b with
     | true=>
       simp only [apt,apq] at h;subst h;obtain ⟨aJ,bE⟩:=an rfl;refine ⟨fun h=>(by cases h),fun _=>⟨0,dG,dG.val,by simp [Instr.findAsking,aj],rfl,by rw [aJ];exact bE,?_⟩⟩;exact ⟨_,es,rfl,aA,bA,aI,bq⟩
     | false=>
       simp only [apA] at h;cases ai:k1 e k v clock ms with
       | none=>rw [ai] at h;cases h
       | some bb=>
         rw [ai] at h;simp only [apq] at h;subst h;obtain ⟨g1,g2⟩:=UG iL aA bA clock ms es bb (i+1) ai bq;refine ⟨fun h=>?_,fun h=>?_⟩
         . obtain ⟨bJ,a2⟩:=g1 h;exact ⟨by simp [Instr.findAsking,aj,bJ],⟨dG,es++[⟨K,X,clock⟩],rfl,U,ab,aI,a2⟩⟩
         . obtain ⟨j,c6,Y,bJ,a2,a3,a4⟩:=g2 h;exact ⟨j+1,c6,Y,by simp [Instr.findAsking,aj,bJ];omega,by simpa using a2,a3,⟨dG,_,rfl,U,ab,aI,a4⟩⟩
theorem alH {da:TypeId} {kC:TypeId} {w:World} (hu:(underlying da).run P w=.ok (.pointer kC) w) {K:Value} {l:List MapEntry} {R:Option (Nat × Value)} (h:(Instr.findAsking da K l 0).run P w=.ok R w):
 (Instr.findKey da K l).run P w=.ok R w:=by
 cases l with
 | nil=>
   simp only [Instr.findAsking,Sem.run_pure] at h;cases h;simp [Instr.findKey,hu,Instr.findNow]
 | cons dG es=>
   have aV:Instr.findNow (.pointer kC) K (dG::es) 0=none:=by simp [Instr.findNow,Instr.sameNow]
   simp [Instr.findKey,hu,aV,h]
theorem abm {x y:V} (h:sC x y=true):x=y:=by
 cases x<;>simp only [sC] at h<;>try (cases h;done)
 all_goals (cases y<;>simp only at h<;>try (cases h;done))
 . rw [aq0] at h;rw [h]
 . simp only [apn,mf,aq0] at h;rw [ua h.1,h.2]
 . rw [vK,aq0] at h;rw [h]
theorem Qh:∀{xs cu:List V},pP xs cu=true->xs=cu
 | [],[],_=>rfl
 | [],_::_,h=>by cases h
 | _::_,[],h=>by cases h
 | x::xs,y::cu,h=>by
   simp only [pP] at h;cases U:sC x y with
   | false=>rw [U] at h;cases h
   | true=>rw [U] at h;rw [abm U,Qh h]
theorem abl {E:Env} {x:V} {X Y:Value} (h:sC x x=true) (dn:Rel E x X) (fw:Rel E x Y):X=Y/\∀n,Instr.sameBits n X X=true:=by
 cases x<;>simp only [sC] at h<;>try (cases h;done)
 . simp only [Rel] at dn fw;subst dn fw;exact ⟨rfl,fun n=>by cases n<;>simp [Instr.sameBits]⟩
 . simp only [Rel] at dn fw;subst dn fw;exact ⟨rfl,fun n=>by cases n<;>simp [Instr.sameBits]⟩
 . simp only [Rel] at dn fw;subst dn fw;exact ⟨rfl,fun n=>by cases n<;>simp [Instr.sameBits,bytes_beq]⟩
theorem Qg {E:Env}:∀{xs:List V} {l e':List Value},pP xs xs=true->bg E xs l->bg E xs e'->l=e'/\∀n,((l.zip l).all fun (x,y)=>Instr.sameBits n x y)=true
 | [],l,e',_,U,ab=>by simp only [bg] at U ab;subst U ab;exact ⟨rfl,fun _=>rfl⟩
 | x::xs,l,e',h,U,ab=>by
   obtain ⟨y,cu,rfl,bJ,a2⟩:=U;obtain ⟨tz,apl,rfl,bR,b7⟩:=ab;simp only [pP] at h;cases au:sC x x with
   | false=>rw [au] at h;cases h
   | true=>
     rw [au] at h;obtain ⟨rfl,aj⟩:=abl au bJ bR;obtain ⟨rfl,an⟩:=Qg h a2 b7;exact ⟨rfl,fun n=>by simp only [List.zip_cons_cons,aqT,aj,an,Bool.and_self]⟩
theorem amk {w:World} {E:Env} {da:TypeId}:xE P w E da (structEq P da):=by
 intro k bp K nI b he ao a8;simp only [structEq] at he
 split at he
 case h_2=>cases he
 split at he
 case h_2=>cases he
 rename_i xs _ cu;cases aq:(hD P 12 da).run (.agg xs) (.agg cu) with
 | none=>rw [aq] at he;cases he
 | some c=>
   rw [aq] at he;have aW:=It 12 Op.maxDepth da _ _ K nI c (by decide) aq ao a8 w;cases c with
   | false=>
     simp only [apA,apq] at he;subst he;exact ⟨aW,fun h=>by cases h⟩
   | true=>
     simp only [apt] at he;cases ai:pP xs cu with
     | false=>rw [ai] at he;cases he
     | true=>
       rw [ai] at he;simp only [apt,apq] at he;subst he;refine ⟨aW,fun _=>?_⟩;have:=Qh ai;subst this;simp only [Rel] at ao a8;obtain ⟨a,rfl,U⟩:=ao;obtain ⟨bk,rfl,ab⟩:=a8;obtain ⟨e,q⟩:=Qg ai U ab;have c6:a=bk:=ard.1 e;subst c6;exact ⟨rfl,by show Instr.sameBits (9999+1) _ _=true;simp only [Instr.sameBits,beq_self_eq_true,aqm];exact q _⟩
theorem run_checkKey_plain {bj:TypeDesc} (aB:kQ bj=true) {t:TypeId} {w:World} (hu:(underlying t).run P w=.ok bj w) (b:Bool) (n:Nat) (v:Value):(Instr.checkKey b (n+1) t v).run P w=.ok () w:=by
 unfold Instr.checkKey;rw [Sem.run_bind,hu];cases bj<;>simp only [kQ] at aB<;>first
  | (cases aB;done)
  | rfl
theorem abV {w:World} {E:Env} {cs:List V} {a:Array Value} (bw:bg E cs a.toList) (b:Bool) (n:Nat):∀(b8:List Field),D8 P cs b8=true->
 (do for f in b8 do
      if f.name≠ "_" then Instr.checkKey b (n+1) f.type (<-part f.type a f.offset):Sem Unit).run P w=.ok () w:=by
 intro b8
 induction b8 with
 | nil=>intro _;simp
 | cons f b8 bh=>
   intro h;simp only [D8] at h;cases U:(qv P f.type f.offset).run cs with
   | none=>rw [U] at h;cases h
   | some x=>
     rw [U] at h;simp only at h;cases ab:bc P f.type with
     | none=>rw [ab] at h;cases h
     | some kE=>
       rw [ab] at h;simp only at h;cases aI:kQ kE.bj with
       | false=>rw [aI] at h;cases h
       | true=>
         rw [aI] at h;simp only [apt] at h;obtain ⟨X,dn,_⟩:=Cf bw U w;have aA:=run_checkKey_plain (P:=P) aI (fA ab w) b n X;have:=bh h;by_cases aV:f.name= "_"
         . simpa [aV] using this
         . simpa [aV,dn,aA] using this
theorem aml {t:TypeId} (h:l6 P t=true) (w:World):∃b8,(underlying t).run P w=.ok (.struct b8) w:=by
 unfold l6 at h;cases aE:bc P t with
 | none=>rw [aE] at h;cases h
 | some aP=>
   rw [aE] at h;simp only at h;have hu:=fA aE w;cases bX:aP.bj<;>rw [bX] at h<;>simp only at h<;>try (cases h;done)
   rw [bX] at hu;exact ⟨_,hu⟩
theorem alG {t:TypeId} {k:V} (aG:lp P t k=true) {E:Env} {K:Value} (aA:Rel E k K) {w:World} (b:Bool):(Instr.checkKey b 10000 t K).run P w=.ok () w:=by
 unfold lp at aG;cases aE:bc P t with
 | none=>rw [aE] at aG;cases aG
 | some aP=>
   rw [aE] at aG;simp only at aG;have hu:=fA aE w;cases bX:aP.bj<;>rw [bX] at aG<;>simp only at aG<;>try (cases aG;done)
   rename_i b8;rw [bX] at hu;cases k<;>simp only at aG<;>try (cases aG;done)
   rename_i cs;simp only [Rel] at aA;obtain ⟨a,rfl,bw⟩:=aA;show (Instr.checkKey b (9998+1+1) t (.agg a)).run P w=.ok () w;unfold Instr.checkKey;rw [Sem.run_bind,hu];have:=abV (P:=P) (w:=w) bw b 9998 b8.toList aG;simp only [Result.andThen_ok,Array.forIn_toList] at this ⊢;exact this
theorem alI {da:TypeId} {b8:Array Field} {w:World} (hu:(underlying da).run P w=.ok (.struct b8) w) {K:Value} {l:List MapEntry} {R:Option (Nat × Value)} (h:(Instr.findAsking da K l 0).run P w=.ok R w):
 (Instr.findKey da K l).run P w=.ok R w:=by
 cases l with
 | nil=>
   simp only [Instr.findAsking,Sem.run_pure] at h;cases h;simp [Instr.findKey,hu,Instr.findNow]
 | cons dG es=>
   have aV:Instr.findNow (.struct b8) K (dG::es) 0=none:=by simp [Instr.findNow,Instr.sameNow]
   simp [Instr.findKey,hu,aV,h]
structure zK (P:Program) (w:World) (E:Env) (da:TypeId) (e:dJ) (K:Value):Prop where
 eq:xE P w E da e
 check:∀b,(Instr.checkKey b 10000 da K).run P w=.ok () w
 find:∀{l:List MapEntry} {R},(Instr.findAsking da K l 0).run P w=.ok R w->(Instr.findKey da K l).run P w=.ok R w
theorem HA {az:Fr} {E:Env} {h:ae} {w:World} (s:ba az E h w) {da:TypeId} (aE:jk P da=true) (K:Value):zK P w E da ⟨jF h⟩ K:=by obtain ⟨Um,nc⟩:=akI aE w;exact ⟨akH s aE,fun b=>alF nc b K,fun q=>alH nc q⟩
theorem HB {w:World} {E:Env} {da:TypeId} (aE:l6 P da=true) {k:V} (aG:lp P da k=true) {K:Value} (aA:Rel E k K):zK P w E da (structEq P da) K:=by obtain ⟨b8,nc⟩:=aml aE w;exact ⟨amk,fun b=>alG aG aA b,fun q=>alI nc q⟩
end
section
variable {P:Program}
theorem Kq {E:Env} {bj:TypeDesc} {k bp:V} {K nI:Value} {b:Bool} (he:(lo bj).run k bp=some b) (ao:Rel E k K) (a8:Rel E bp nI):
 Instr.sameNow bj K nI=some b/\(b=true->nI=K/\∀n,Instr.sameBits n K K=true):=by
 cases bj<;>simp only [lo] at he<;>try (simp [dJ.none] at he;done)
 case bool=>
  simp only [q9] at he;cases k<;>simp only at he<;>try (cases he;done)
  cases bp<;>simp only at he<;>try (cases he;done)
  simp only [Rel] at ao a8;subst ao a8;simp only [apq] at he;subst he;refine ⟨rfl,fun h=>?_⟩;rw [aq0] at h;subst h;exact ⟨rfl,fun n=>by cases n<;>simp [Instr.sameBits]⟩
 case int nj=>
  simp only [j'] at he;obtain ⟨j,m,rfl,U⟩:=jX he;clear he;obtain ⟨E8,cZ,rfl,ab⟩:=jX U;clear U;obtain ⟨aA,h⟩:=eJ ab;clear ab;have:=ua aA;subst this;simp only [Rel] at ao a8;subst ao a8;simp only [apq,mf] at h;subst h;refine ⟨by simp [Instr.sameNow],fun h=>?_⟩;rw [aq0] at h;subst h;exact ⟨rfl,fun n=>by cases n<;>simp [Instr.sameBits]⟩
 case string=>
  simp only [jN] at he;cases k<;>simp only at he<;>try (cases he;done)
  cases bp<;>simp only at he<;>try (cases he;done)
  simp only [Rel] at ao a8;subst ao a8;simp only [apq,vK] at he;subst he;refine ⟨by simp only [Instr.sameNow,bytes_beq],fun h=>?_⟩;rw [aq0] at h;subst h;exact ⟨rfl,fun n=>by cases n<;>simp [Instr.sameBits,bytes_beq]⟩
theorem run_checkKey {bj:TypeDesc} (aB:kQ bj=true) {t:TypeId} {w:World} (hu:(underlying t).run P w=.ok bj w) (b:Bool) (v:Value):(Instr.checkKey b 10000 t v).run P w=.ok () w:=by
 show (Instr.checkKey b (9999+1) t v).run P w=.ok () w;unfold Instr.checkKey;rw [Sem.run_bind,hu];cases bj<;>simp only [kQ] at aB<;>first
  | (cases aB;done)
  | rfl
theorem run_findKey {bj:TypeDesc} {t:TypeId} {w:World} (hu:(underlying t).run P w=.ok bj w) {K:Value} {l:List MapEntry} {R:Option (Nat × Value)} (h:Instr.findNow bj K l 0=some R):
 (Instr.findKey t K l).run P w=.ok R w:=by
 simp only [Instr.findKey,Sem.run_bind,hu,Result.andThen_ok,h,Sem.run_pure]
theorem QC {E:Env} {bj:TypeDesc} {k:V} {K:Value} (aA:Rel E k K):∀(es:List cb) (l:List MapEntry) (r:Option V) (i:Nat),j_ (lo bj) k es=some r->dq E es l->
 ∃R,Instr.findNow bj K l i=some R/\(match r with
  | none=>R=none
  | some v=>∃j Y,R=some (j,Y)/\Rel E v Y)
 | [],l,r,i,h,aD=>by simp only [dq] at aD;subst aD;simp only [j_,apq] at h;subst h;exact ⟨none,rfl,rfl⟩
 | m::ms,l,r,i,h,aD=>by
   obtain ⟨e,es,rfl,U,ab,aI,bq⟩:=aD;simp only [j_] at h;cases aW:(lo bj).run k m.k with
   | none=>rw [aW] at h;cases h
   | some b=>
     rw [aW] at h;simp only at h;obtain ⟨aj,an⟩:=Kq aW aA U;cases b with
     | true=>
       simp only [apt,apq] at h;subst h;exact ⟨some (i,e.val),by simp only [Instr.findNow,aj],i,e.val,rfl,ab⟩
     | false=>
       simp only [apA] at h;obtain ⟨R,g1,g2⟩:=QC aA ms es r (i+1) h bq;exact ⟨R,by simp only [Instr.findNow,aj,g1],g2⟩
theorem UJ {E:Env} {bj:TypeDesc} {k v:V} {K X:Value} (aA:Rel E k K) (bA:Rel E v X) (clock:Nat):∀(es:List cb) (l:List MapEntry) (r:List cb × Bool) (i:Nat),k1 (lo bj) k v clock es=some r->dq E es l->
 (r.2=true->Instr.findNow bj K l i=some none/\dq E r.1 (l++[⟨K,X,clock⟩]))/\
 (r.2=false->∃j e Y,Instr.findNow bj K l i=some (some (i+j,Y))/\l[j]? =some e/\Instr.sameBits 10000 e.key K=true/\dq E r.1 (l.modify j fun e=>{e with key:=K,val:=X}))
 | [],l,r,i,h,aD=>by simp only [dq] at aD;subst aD;simp only [k1,apq] at h;subst h;exact ⟨fun _=>⟨rfl,_,_,rfl,aA,bA,rfl,rfl⟩,fun h=>by cases h⟩
 | m::ms,l,r,i,h,aD=>by
   obtain ⟨e,es,rfl,U,ab,aI,bq⟩:=aD;simp only [k1] at h;cases aW:(lo bj).run k m.k with
   | none=>rw [aW] at h;cases h
   | some b=>
     rw [aW] at h;simp only at h;obtain ⟨aj,an⟩:=Kq aW aA U;cases b with
     | true=>
       simp only [apt,apq] at h;subst h;obtain ⟨aJ,bE⟩:=an rfl;refine ⟨fun h=>(by cases h),fun _=>⟨0,e,e.val,by simp only [Instr.findNow,aj,aqH],rfl,by rw [aJ];exact bE _,?_⟩⟩;exact ⟨_,es,rfl,aA,bA,aI,bq⟩
     | false=>
       simp only [apA] at h;cases ai:k1 (lo bj) k v clock ms with
       | none=>rw [ai] at h;cases h
       | some bb=>
         rw [ai] at h;simp only [apq] at h;subst h;obtain ⟨g1,g2⟩:=UJ aA bA clock ms es bb (i+1) ai bq;refine ⟨fun h=>?_,fun h=>?_⟩
         . obtain ⟨bJ,a2⟩:=g1 h;exact ⟨by simp only [Instr.findNow,aj,bJ],⟨e,es++[⟨K,X,clock⟩],rfl,U,ab,aI,a2⟩⟩
         . obtain ⟨j,c6,Y,bJ,a2,a3,a4⟩:=g2 h;exact ⟨j+1,c6,Y,by simp only [Instr.findNow,aj,bJ];congr 3;omega,by simpa using a2,a3,e,_,rfl,U,ab,aI,a4⟩
theorem KF {az:Fr} {E:Env} {h:ae} {w:World} (s:ba az E h w) {x:V} {X:Value} {es:List cb} (he:qq h x=some es) (ao:Rel E x X):
 (X=.map none/\es=[])\/∃r a clock,X=.map (some r)/\(getObj r).run P w=.ok (.map a clock) w/\dq E es a.toList:=by
 cases x<;>simp only [qq] at he<;>try (cases he;done)
 . simp only [Rel] at ao;exact .inl ⟨ao,by simpa using he.symm⟩
 . rename_i b;simp only [Rel] at ao;obtain ⟨p,ai,rfl⟩:=ao;have ah:=s.at ai;cases aG:h.get b<;>rw [aG] at he<;>simp only [b'.hN] at he<;>try (cases he;done)
   simp only [apq] at he;subst he;rw [aG] at ah;obtain ⟨q,a,U,_,aI,bq⟩:=ah;rw [ai] at U;cases U;exact .inr ⟨p.aS,a,_,rfl,by simp only [getObj,Sem.run,aI];rfl,bq⟩
theorem Qz {bj:TypeDesc} {K:Value}:∀{l:List MapEntry} {i:Nat},(∀e ∈ l,Instr.sameNow bj K e.key=some false)->Instr.findNow bj K l i=some none
 | [],_,_=>rfl
 | e::es,i,h=>by simp only [Instr.findNow,h e (by simp)];exact Qz fun c6 eE=>h c6 (by simp [eE])
theorem QA {bj:TypeDesc} {K:Value}:∀{l:List MapEntry} {i:Nat},(∀e ∈ l,∃b,Instr.sameNow bj K e.key=some b)->(∃e ∈ l,Instr.sameNow bj K e.key=some true)->
 ∃j,∃e ∈ l,Instr.sameNow bj K e.key=some true/\Instr.findNow bj K l i=some (some (j,e.val))
 | [],_,_,h=>by obtain ⟨e,he,_⟩:=h;simp at he
 | e::es,i,U,ab=>by
   obtain ⟨b,ah⟩:=U e (by simp);cases b with
   | true=>exact ⟨i,e,by simp,ah,by simp only [Instr.findNow,ah]⟩
   | false=>
     obtain ⟨c6,eE,aE⟩:=ab;simp only [apI] at eE;rcases eE with rfl | eE
     . rw [ah] at aE;cases aE
     . obtain ⟨j,aK,aj,an,aJ⟩:=QA (i:=i+1) (fun x ao=>U x (by simp [ao])) ⟨c6,eE,aE⟩;exact ⟨j,aK,by simp [aj],an,by simp only [Instr.findNow,ah,aJ]⟩
theorem QB {E:Env} {bj:TypeDesc} {k:V} {K:Value} (aA:Rel E k K):∀(es:List cb) (l:List MapEntry) (r:Option V),mZ (lo bj) k es=some r->iI E es l->
 (∀e ∈ l,∃b,Instr.sameNow bj K e.key=some b)/\(match r with
  | none=>∀e ∈ l,Instr.sameNow bj K e.key=some false
  | some v=>(∃e ∈ l,Instr.sameNow bj K e.key=some true)/\∀e ∈ l,Instr.sameNow bj K e.key=some true->Rel E v e.val)
 | [],l,r,h,aD=>by simp only [iI] at aD;subst aD;simp only [mZ,apq] at h;subst h;exact ⟨fun e he=>by simp at he,fun e he=>by simp at he⟩
 | m::ms,l,r,h,aD=>by
   obtain ⟨e,es,rfl,U,ab,bq⟩:=aD;simp only [mZ] at h;cases aB:mZ (lo bj) k ms with
   | none=>rw [aB] at h;cases h
   | some bb=>
     rw [aB] at h;simp only at h;obtain ⟨g1,g2⟩:=QB aA ms es bb aB bq;cases aW:(lo bj).run k m.k with
     | none=>rw [aW] at h;cases h
     | some b=>
       rw [aW] at h;simp only at h;obtain ⟨aj,_⟩:=Kq aW aA U;have I_:∀c6 ∈ e::es,∃b,Instr.sameNow bj K c6.key=some b:=by
        intro c6 eE;rcases apI.1 eE with rfl | eE
        . exact ⟨b,aj⟩
        . exact g1 c6 eE
       refine ⟨I_,?_⟩;cases b with
       | true=>
         simp only [apt] at h;cases bb with
         | some _=>cases h
         | none=>
           simp only [apq] at h;subst h;refine ⟨⟨e,by simp,aj⟩,fun c6 eE aE=>?_⟩;rcases apI.1 eE with rfl | eE
           . exact ab
           . have:=g2 c6 eE;rw [aE] at this;cases this
       | false=>
         simp only [apA,apq] at h;subst h;cases bb with
         | none=>
           intro c6 eE;rcases apI.1 eE with rfl | eE
           . exact aj
           . exact g2 c6 eE
         | some v=>
           obtain ⟨⟨c4,eR,hc⟩,y3⟩:=g2;refine ⟨⟨c4,by simp [eR],hc⟩,fun c6 eE aE=>?_⟩;rcases apI.1 eE with rfl | eE
           . rw [aj] at aE;cases aE
           . exact y3 c6 eE aE
theorem abM {E:Env} {bj:TypeDesc} {k:V} {K:Value} (aA:Rel E k K) {es:List cb} {l a:List MapEntry} {r:Option V} (h:mZ (lo bj) k es=some r) (aD:iI E es l) (ai:l.Perm a):
 ∃R,Instr.findNow bj K a 0=some R/\(match r with
  | none=>R=none
  | some v=>∃j Y,R=some (j,Y)/\Rel E v Y):=by
 obtain ⟨U,ab⟩:=QB aA es l r h aD;have hm:∀e,e ∈ a↔e ∈ l:=fun e=>ai.mem_iff.symm;cases r with
 | none=>exact ⟨none,Qz fun e he=>ab e ((hm e).1 he),rfl⟩
 | some v=>
   obtain ⟨⟨c4,eR,hc⟩,y3⟩:=ab;obtain ⟨j,e,aj,an,aJ⟩:=QA (i:=0) (fun e he=>U e ((hm e).1 he)) ⟨c4,(hm c4).2 eR,hc⟩;exact ⟨_,aJ,j,e.val,rfl,y3 e ((hm e).1 aj) an⟩
theorem aiI {e:dJ} {z:V} {ok:Bool} {h:ae} {x k v:V} (he:g' e z ok h x k=some v):
 hq e z ok h x k=some v\/∃b es r,x=.map b/\h.get b=.hM es/\mZ e k es=some r/\v=(match r with
  | some u=>bif ok then .tuple [u,.bool true] else u
  | none=>bif ok then .tuple [z,.bool false] else z):=by
 unfold g' at he;cases x<;>simp only at he<;>try (exact .inl he)
 rename_i b;cases aG:h.get b<;>rw [aG] at he<;>simp only at he<;>try (exact .inl he)
 rename_i es;cases aB:mZ e k es with
 | none=>rw [aB] at he;cases he
 | some r=>
   rw [aB] at he;refine .inr ⟨b,es,r,rfl,aG,aB,?_⟩;cases r<;>simp only [apq] at he<;>exact he.symm
theorem aiH {az:Fr} {E:Env} {h:ae} {w:World} (s:ba az E h w) {t:TypeId} {ok:Bool} {x k v:V} {X K:Value} (ao:Rel E x X) (aA:Rel E k K) (he:(Fi P t ok).run h x k=some v):
 ∃Z,(Instr.lookup t X K ok).run P w=.ok Z w/\Rel E v Z:=by
 unfold Fi at he;cases aE:bc P t with
 | none=>rw [aE] at he;cases he
 | some aP=>
   rw [aE] at he;simp only at he;have hu:=fA aE w;cases bX:aP.bj<;>rw [bX] at he<;>simp only at he<;>try (cases he;done)
   rename_i da kC;rw [bX] at hu;cases iP:bc P da with
   | none=>rw [iP] at he;cases he
   | some gx=>
     rw [iP] at he;simp only at he;cases het:bc P kC with
     | none=>rw [het] at he;cases he
     | some bf=>
       rw [het] at he;simp only at he;cases bm:bf.zero with
       | none=>rw [bm] at he;cases he
       | some z=>
         rw [bm] at he;simp only at he;cases aB:kQ gx.bj with
         | false=>
           rw [aB] at he;simp only [apA] at he;have ui:∃e,zK P w E da e K/\hq e z ok h x k=some v:=by
            cases qb:jk P da with
            | true=>
              rw [qb] at he;exact ⟨_,HA s qb K,he⟩
            | false=>
              rw [qb] at he;simp only [apA] at he;cases cD:l6 P da with
              | false=>rw [cD] at he;cases he
              | true=>
                rw [cD] at he;simp only [apt] at he;obtain ⟨aG,he⟩:=eJ he;exact ⟨_,HB cD aG aA,he⟩
           clear he;obtain ⟨e,ask,he⟩:=ui;obtain ⟨vd,nh,mx,_⟩:=zq (P:=P) het bm E w;simp only [hq] at he;cases hm:qq h x with
           | none=>rw [hm] at he;cases he
           | some es=>
             rw [hm] at he;simp only at he;cases wo:j_ e k es with
             | none=>rw [wo] at he;cases he
             | some r=>
               rw [wo] at he;simp only at he;have main:∀(l:List MapEntry),dq E es l->∃R,(Instr.findKey da K l).run P w=.ok R w/\
                ((R=none/\Rel E v (if ok=true then .tuple #[vd,.bool false] else vd))\/∃j Y,R=some (j,Y)/\Rel E v (if ok=true then .tuple #[Y,.bool true] else Y)):=by
                intro l ar;obtain ⟨R,g1,g2⟩:=Qx ask.eq aA es l r 0 wo ar;refine ⟨R,ask.find g1,?_⟩;cases r with
                | none=>
                  simp only at g2 he;refine .inl ⟨g2,?_⟩;simp only [apq] at he;subst he;cases ok
                  . exact mx
                  . simp only [apt,ap0,Rel,bg];exact ⟨_,rfl,_,_,rfl,mx,_,_,rfl,rfl,rfl⟩
                | some u=>
                  simp only at g2 he;obtain ⟨j,Y,cR,fw⟩:=g2;refine .inr ⟨j,Y,cR,?_⟩;simp only [apq] at he;subst he;cases ok
                  . exact fw
                  . simp only [apt,ap0,Rel,bg];exact ⟨_,rfl,_,_,rfl,fw,_,_,rfl,rfl,rfl⟩
               rcases KF (P:=P) s hm ao with ⟨rfl,rfl⟩ | ⟨a1,a,clock,rfl,eN,Bf⟩
               . obtain ⟨R,g1,g2⟩:=main [] rfl;have ka:=ask.check true;rcases g2 with ⟨rfl,g3⟩ | ⟨j,Y,rfl,g3⟩
                 all_goals
                  refine ⟨_,?_,g3⟩;simp only [Instr.lookup,Sem.run_bind,hu,Result.andThen_ok,Sem.run_pure];have av:(#[]:Array MapEntry).isEmpty=true:=rfl;rw [av,ka,Result.andThen_ok,g1,Result.andThen_ok];simp only [Sem.run_bind,nh,Result.andThen_ok,Sem.run_pure]
               . obtain ⟨R,g1,g2⟩:=main a.toList Bf;have ka:=ask.check a.isEmpty;rcases g2 with ⟨rfl,g3⟩ | ⟨j,Y,rfl,g3⟩
                 all_goals
                  refine ⟨_,?_,g3⟩;simp only [Instr.lookup,Sem.run_bind,hu,Result.andThen_ok,Sem.run_pure,eN];rw [ka,Result.andThen_ok,g1,Result.andThen_ok];simp only [Sem.run_bind,nh,Result.andThen_ok,Sem.run_pure]
         | true=>
           rw [aB] at he;simp only [apt] at he;obtain ⟨vd,nh,mx,_⟩:=zq (P:=P) het bm E w;have nc:=fA iP w;rcases aiI he with he | ⟨b,es,r,rfl,aG,adG,rfl⟩
           case inr=>
            simp only [Rel] at ao;obtain ⟨p,ai,rfl⟩:=ao;have ah:=s.at ai;rw [aG] at ah;obtain ⟨p',a,c,l,hn,_,a7,aeR,J8⟩:=ah;rw [ai] at hn;cases hn;obtain ⟨R,g1,g2⟩:=abM aA adG aeR J8;have eN:(getObj p.aS).run P w=.ok (.map a c) w:=by simp only [getObj,Sem.run,a7]
            have ka:=run_checkKey (P:=P) aB nc a.isEmpty K;have Ee:=run_findKey nc g1;cases r with
            | none=>
              simp only at g2;subst g2;refine ⟨if ok=true then .tuple #[vd,.bool false] else vd,?_,?_⟩
              . simp only [Instr.lookup,Sem.run_bind,hu,Result.andThen_ok,Sem.run_pure,eN];rw [ka,Result.andThen_ok,Ee,Result.andThen_ok];simp only [Sem.run_bind,nh,Result.andThen_ok,Sem.run_pure]
              . cases ok
                . exact mx
                . simp only [apt,ap0,Rel,bg];exact ⟨_,rfl,_,_,rfl,mx,_,_,rfl,rfl,rfl⟩
            | some u=>
              simp only at g2;obtain ⟨j,Y,rfl,fw⟩:=g2;refine ⟨if ok=true then .tuple #[Y,.bool true] else Y,?_,?_⟩
              . simp only [Instr.lookup,Sem.run_bind,hu,Result.andThen_ok,Sem.run_pure,eN];rw [ka,Result.andThen_ok,Ee,Result.andThen_ok];simp only [Sem.run_bind,Sem.run_pure,Result.andThen_ok]
              . cases ok
                . exact fw
                . simp only [apt,ap0,Rel,bg];exact ⟨_,rfl,_,_,rfl,fw,_,_,rfl,rfl,rfl⟩
           simp only [hq] at he;cases hm:qq h x with
           | none=>rw [hm] at he;cases he
           | some es=>
             rw [hm] at he;simp only at he;cases wo:j_ (lo gx.bj) k es with
             | none=>rw [wo] at he;cases he
             | some r=>
               rw [wo] at he;simp only at he;have main:∀(l:List MapEntry),dq E es l->∃R,(Instr.findKey da K l).run P w=.ok R w/\
                ((R=none/\Rel E v (if ok=true then .tuple #[vd,.bool false] else vd))\/∃j Y,R=some (j,Y)/\Rel E v (if ok=true then .tuple #[Y,.bool true] else Y)):=by
                intro l ar;obtain ⟨R,g1,g2⟩:=QC aA es l r 0 wo ar;refine ⟨R,run_findKey nc g1,?_⟩;cases r with
                | none=>
                  simp only at g2 he;refine .inl ⟨g2,?_⟩;simp only [apq] at he;subst he;cases ok
                  . exact mx
                  . simp only [apt,ap0,Rel,bg];exact ⟨_,rfl,_,_,rfl,mx,_,_,rfl,rfl,rfl⟩
                | some u=>
                  simp only at g2 he;obtain ⟨j,Y,cR,fw⟩:=g2;refine .inr ⟨j,Y,cR,?_⟩;simp only [apq] at he;subst he;cases ok
                  . exact fw
                  . simp only [apt,ap0,Rel,bg];exact ⟨_,rfl,_,_,rfl,fw,_,_,rfl,rfl,rfl⟩
               rcases KF (P:=P) s hm ao with ⟨rfl,rfl⟩ | ⟨a1,a,clock,rfl,eN,Bf⟩
               . obtain ⟨R,g1,g2⟩:=main [] rfl;have ka:=run_checkKey (P:=P) aB nc true K;rcases g2 with ⟨rfl,g3⟩ | ⟨j,Y,rfl,g3⟩
                 all_goals
                  refine ⟨_,?_,g3⟩;simp only [Instr.lookup,Sem.run_bind,hu,Result.andThen_ok,Sem.run_pure];have av:(#[]:Array MapEntry).isEmpty=true:=rfl;rw [av,ka,Result.andThen_ok,g1,Result.andThen_ok];simp only [Sem.run_bind,nh,Result.andThen_ok,Sem.run_pure]
               . obtain ⟨R,g1,g2⟩:=main a.toList Bf;have ka:=run_checkKey (P:=P) aB nc a.isEmpty K;rcases g2 with ⟨rfl,g3⟩ | ⟨j,Y,rfl,g3⟩
                 all_goals
                  refine ⟨_,?_,g3⟩;simp only [Instr.lookup,Sem.run_bind,hu,Result.andThen_ok,Sem.run_pure,eN];rw [ka,Result.andThen_ok,g1,Result.andThen_ok];simp only [Sem.run_bind,nh,Result.andThen_ok,Sem.run_pure]
theorem V5 {az:Fr} {E:Env} {h aa:ae} {w:World} (s:ba az E h w) {t:TypeId} {x k v:V} {X K Y:Value} (ao:Rel E x X) (aA:Rel E k K) (bA:Rel E v Y) (he:(pv P t).run h x k v=some aa):
 ∃w',(Instr.mapUpdate t X K Y).run P w=.ok () w'/\ba az E aa w':=by
 unfold pv at he;cases aE:bc P t with
 | none=>rw [aE] at he;cases he
 | some aP=>
   rw [aE] at he;simp only at he;have hu:=fA aE w;cases bX:aP.bj<;>rw [bX] at he<;>simp only at he<;>try (cases he;done)
   rename_i da kC;rw [bX] at hu;cases iP:bc P da with
   | none=>rw [iP] at he;cases he
   | some gx=>
     rw [iP] at he;simp only at he;cases aB:kQ gx.bj with
     | false=>
       rw [aB] at he;simp only [apA] at he;have ui:∃e,zK P w E da e K/\j2 e h x k v=some aa:=by
        cases qb:jk P da with
        | true=>
          rw [qb] at he;exact ⟨_,HA s qb K,he⟩
        | false=>
          rw [qb] at he;simp only [apA] at he;cases cD:l6 P da with
          | false=>rw [cD] at he;cases he
          | true=>
            rw [cD] at he;simp only [apt] at he;obtain ⟨aG,he⟩:=eJ he;exact ⟨_,HB cD aG aA,he⟩
       clear he;obtain ⟨e,ask,he⟩:=ui;cases x<;>simp only [j2] at he<;>try (cases he;done)
       rename_i b;simp only [Rel] at ao;obtain ⟨p,ai,rfl⟩:=ao;have ah:=s.at ai;cases aG:h.get b<;>rw [aG] at he<;>simp only [b'.hN] at he<;>try (cases he;done)
       rename_i es clock;rw [aG] at ah;obtain ⟨q,a,U,cC,aI,bq⟩:=ah;rw [ai] at U;cases U;cases wG:k1 e k v clock es with
       | none=>rw [wG] at he;cases he
       | some r=>
         rw [wG] at he;simp only [apq] at he;subst he;have eN:(getObj p.aS).run P w=.ok (.map a clock) w:=by simp only [getObj,Sem.run,aI]
         have ka:=ask.check false;have kN:=(apr.1 aI).1;have AI:∀(bk:Array MapEntry) (gL:Nat),dq E r.1 bk.toList->gL=(bif r.2 then clock+1 else clock)->
          ∃w',(setObj p.aS (.map bk gL)).run P w=.ok () w'/\ba az E (h.set b (.mp r.1 (bif r.2 then clock+1 else clock))) w':=by
          intro bk gL hm au;refine ⟨{w with heap:=w.heap.setIfInBounds p.aS (.map bk gL)},by simp only [setObj,Sem.run,aI],s.set (p:=p) (by rw [aG];rfl) ai cC (by simp) (fun j bC=>?_) rfl rfl rfl (fun _ _ _ e=>by cases e) ?_⟩
          . simp only [apJ];rw [apu (fun e=>bC e.symm)]
          . exact ⟨p,bk,ai,cC,by simp [kN,au],hm⟩
         obtain ⟨g1,g2⟩:=UG ask.eq aA bA clock es a.toList r 0 wG bq;cases lQ:r.2 with
         | true=>
           obtain ⟨bJ,a2⟩:=g1 lQ;obtain ⟨w',d1,d2⟩:=AI (a.push ⟨K,Y,clock⟩) (clock+1) (by simpa using a2) (by rw [lQ];rfl);rw [lQ] at d2;refine ⟨w',?_,d2⟩;simp only [Instr.mapUpdate,Sem.run_bind,hu,Result.andThen_ok,eN,ka,ask.find bJ,d1]
         | false=>
           obtain ⟨j,dG,Xr,bJ,a2,a3,a4⟩:=g2 lQ;obtain ⟨w',d1,d2⟩:=AI (a.modify j fun dG=>{dG with key:=K,val:=Y}) clock (by simpa using a4) (by rw [lQ];rfl);rw [lQ] at d2;refine ⟨w',?_,d2⟩;rw [apX] at bJ;have av:a[j]? =some dG:=by simpa using a2
           simp only [Instr.mapUpdate,Sem.run_bind,hu,Result.andThen_ok,eN,ka,ask.find bJ,av,Option.map,Option.getD,Instr.keyThatStays,a3,ap0,Sem.run_pure,d1]
     | true=>
       rw [aB] at he;simp only [apt] at he;have nc:=fA iP w;cases x<;>simp only [j2] at he<;>try (cases he;done)
       rename_i b;simp only [Rel] at ao;obtain ⟨p,ai,rfl⟩:=ao;have ah:=s.at ai;cases aG:h.get b<;>rw [aG] at he<;>simp only [b'.hN] at he<;>try (cases he;done)
       rename_i es clock;rw [aG] at ah;obtain ⟨q,a,U,cC,aI,bq⟩:=ah;rw [ai] at U;cases U;cases wG:k1 (lo gx.bj) k v clock es with
       | none=>rw [wG] at he;cases he
       | some r=>
         rw [wG] at he;simp only [apq] at he;subst he;have eN:(getObj p.aS).run P w=.ok (.map a clock) w:=by simp only [getObj,Sem.run,aI]
         have ka:=run_checkKey (P:=P) aB nc false K;have kN:=(apr.1 aI).1;have done:∀(bk:Array MapEntry) (gL:Nat),dq E r.1 bk.toList->gL=(bif r.2 then clock+1 else clock)->
          ∃w',(setObj p.aS (.map bk gL)).run P w=.ok () w'/\ba az E (h.set b (.mp r.1 (bif r.2 then clock+1 else clock))) w':=by
          intro bk gL hm au;refine ⟨{w with heap:=w.heap.setIfInBounds p.aS (.map bk gL)},by simp only [setObj,Sem.run,aI],s.set (p:=p) (by rw [aG];rfl) ai cC (by simp) (fun j bC=>?_) rfl rfl rfl (fun _ _ _ e=>by cases e) ?_⟩
          . simp only [apJ];rw [apu (fun e=>bC e.symm)]
          . exact ⟨p,bk,ai,cC,by simp [kN,au],hm⟩
         obtain ⟨g1,g2⟩:=UJ aA bA clock es a.toList r 0 wG bq;cases lQ:r.2 with
         | true=>
           obtain ⟨bJ,a2⟩:=g1 lQ;obtain ⟨w',d1,d2⟩:=done (a.push ⟨K,Y,clock⟩) (clock+1) (by simpa using a2) (by rw [lQ];rfl);rw [lQ] at d2;refine ⟨w',?_,d2⟩;simp only [Instr.mapUpdate,Sem.run_bind,hu,Result.andThen_ok,eN,ka,run_findKey nc bJ,d1]
         | false=>
           obtain ⟨j,e,Xr,bJ,a2,a3,a4⟩:=g2 lQ;obtain ⟨w',d1,d2⟩:=done (a.modify j fun e=>{e with key:=K,val:=Y}) clock (by simpa using a4) (by rw [lQ];rfl);rw [lQ] at d2;refine ⟨w',?_,d2⟩;rw [apX] at bJ;have av:a[j]? =some e:=by simpa using a2
           simp only [Instr.mapUpdate,Sem.run_bind,hu,Result.andThen_ok,eN,ka,run_findKey nc bJ,av,Option.map,Option.getD,Instr.keyThatStays,a3,ap0,Sem.run_pure,d1]
theorem TJ {az:Fr} {E:Env} {h aa:ae} {w:World} (s:ba az E h w) {v:V} (he:s8 h=.val v aa):c9 az P E w (do pure (.map (some (<-newObj (.map #[] 0))))) v aa:=by
 unfold s8 at he;simp only [a_.val.injEq] at he;obtain ⟨rfl,rfl⟩:=he;have dC:=s.fresh h.next (aps _)
 have dt:E.put (aC h.next) ⟨w.heap.size,0,0⟩ (aC h.next)=some ⟨w.heap.size,0,0⟩:=by unfold Env.put;rw [apB rfl]
 refine ⟨.map (some w.heap.size),{w with heap:=w.heap.push (.map #[] 0)},_,?_,Env.mC (p:=⟨w.heap.size,0,0⟩) dC,?_,s.alloc 0 ?_⟩
 . simp only [Sem.run_bind,run_newObj,Result.andThen_ok,Sem.run_pure]
 . simp only [Rel];exact ⟨_,dt,rfl⟩
 . exact ⟨_,#[],dt,s.frame.size,by simp,rfl⟩
theorem aiM {az:Fr} {E:Env} {h aa:ae} {w:World} (s:ba az E h w) {t:TypeId} {x:Option V} {X:Option Value} {v:V} (ao:h6 E x X) (he:yX P t x h=.val v aa):c9 az P E w (Instr.makeMap t X) v aa:=by
 unfold yX at he;cases aE:bc P t with
 | none=>rw [aE] at he;cases he
 | some aP=>
   rw [aE] at he;simp only at he;have hu:=fA aE;cases ah:Nat.beq (e_ aP.bj) 3 with
   | false=>rw [ah] at he;cases he
   | true=>
     rw [ah] at he;simp only [apt] at he;cases x with
     | none=>
       have:X=none:=by cases X with | none=>rfl | some _=>simp [h6] at ao
       subst this;simp only [rG] at he;have:=TJ (P:=P) s he;exact this
     | some u=>
       simp only [rG] at he;obtain ⟨cY,n,rfl,U⟩:=tc he;obtain ⟨Y,rfl,fw⟩:∃Y,X=some Y/\Rel E (.int cY n) Y:=by
        cases X with
        | none=>simp [h6] at ao
        | some Y=>simp only [h6] at ao;obtain ⟨anV,U,ab⟩:=ao;cases U;exact ⟨_,rfl,ab⟩
       have:=fw.iU;subst this;obtain ⟨Z,w',ay,aj,an⟩:=TJ (P:=P) s U;refine ⟨Z,w',ay,?_,an⟩;cases bX:aP.bj<;>rw [bX] at ah<;>simp [e_] at ah;have hu:=hu w;rw [bX] at hu;simp only [Instr.makeMap,Sem.run_bind,hu,Result.andThen_ok,asInt,Sem.run_pure];exact aj
theorem aim {az:Fr} {E:Env} {h aa:ae} {w:World} (s:ba az E h w) {t:TypeId} {aP:nP} (aE:bc P t=some aP) (hm:uF aP.bj=true) {x v:V} {X:Value} (ao:Rel E x X) (ty:TypeId) (rest:List TypeId)
 (he:BR [x] h=.val v aa):c9 az P E w (Builtin.len_ (t::rest).toArray ty #[X]) v aa:=by
 simp only [BR] at he;cases aW:qq h x with
 | none=>rw [aW] at he;cases he
 | some es=>
   rw [aW] at he;simp only [a_.val.injEq] at he;obtain ⟨rfl,rfl⟩:=he;have hu:=fA aE w;cases bX:aP.bj<;>rw [bX] at hm<;>simp [uF] at hm;rw [bX] at hu;rcases KF (P:=P) s aW ao with ⟨rfl,rfl⟩ | ⟨a1,a,clock,rfl,eN,Bf⟩
   . refine c9.plain (Z:=goInt 0) s ?_ (by simp [Rel,goInt]);simp [Builtin.len_,hu]
   . have hlen:∀(ms:List cb) (l:List MapEntry),dq E ms l->l.length=ms.length:=by
      intro ms
      induction ms with
      | nil=>intro l h;simp only [dq] at h;subst h;rfl
      | cons m ms bh=>intro l h;obtain ⟨e,es,rfl,_,_,_,bq⟩:=h;simp [bh _ bq]
     refine c9.plain (Z:=goInt a.size) s ?_ ?_
     . simp [Builtin.len_,hu,eN]
     . have:=hlen _ _ Bf;simp only [Array.length_toList] at this;simp [Rel,goInt,this]
end
section
variable {P:Program}
theorem Qv {E:Env} {v:V} {Y:Value} (bA:Rel E v Y) {n:Nat}:∀(es:List cb) (l:List MapEntry) (r:List cb),oU n v es=some r->dq E es l->
 ∃j,l.findIdx? (fun e=>(e.born:Int) == (n:Int))=some j/\dq E r (l.modify j fun e=>{e with val:=Y})
 | [],l,r,h,aD=>by cases h
 | m::ms,l,r,h,aD=>by
   obtain ⟨e,es,rfl,U,ab,aI,bq⟩:=aD;simp only [oU] at h;cases ah:Nat.beq m.born n with
   | true=>
     rw [ah] at h;simp only [apt,apq] at h;subst h;have aV:=aqj ah;refine ⟨0,by simp [List.findIdx?_cons,aI,aV],?_⟩;exact ⟨_,es,rfl,U,bA,aI,bq⟩
   | false=>
     rw [ah] at h;simp only [apA] at h;cases aB:oU n v ms with
     | none=>rw [aB] at h;cases h
     | some bb=>
       rw [aB] at h;simp only [apq] at h;subst h;obtain ⟨j,g1,g2⟩:=Qv bA ms es bb aB bq;have cT:¬((e.born:Int) == (n:Int))=true:=by
        rw [aI];intro aq;have n5:(m.born:Int)=(n:Int):=by simpa using aq
        have aeu:m.born=n:=by omega
        rw [aeu,arh] at ah;cases ah
       refine ⟨j+1,by simp only [List.findIdx?_cons,cT];simp [g1],⟨e,_,by simp [List.modify],U,ab,aI,g2⟩⟩
theorem abi {az:Fr} {E:Env} {h aa:ae} {w:World} (s:ba az E h w) {t:TypeId} {x st v:V} {X S Y:Value} (ao:Rel E x X) (cD:Rel E st S) (bA:Rel E v Y) (he:q8 h x st v=some aa):
 ∃w',(Instr.entryStore t X S Y).run P w=.ok () w'/\ba az E aa w':=by
 unfold q8 at he
 split at he
 case h_2=>cases he
 rename_i b
 split at he
 case h_2=>cases he
 rename_i cY m
 split at he
 case h_2=>cases he
 rename_i n;simp only [Rel] at ao cD;obtain ⟨p,ai,rfl⟩:=ao;subst cD;have ah:=s.at ai;cases aG:h.get b<;>rw [aG] at he<;>simp only [b'.hN] at he<;>try (cases he;done)
 rename_i es clock;rw [aG] at ah;obtain ⟨q,a,U,cC,aI,bq⟩:=ah;rw [ai] at U;cases U;cases aB:oU n v es with
 | none=>rw [aB] at he;cases he
 | some r=>
   rw [aB] at he;simp only [apq] at he;subst he;obtain ⟨j,g1,g2⟩:=Qv bA es a.toList r aB bq;have eN:(getObj p.aS).run P w=.ok (.map a clock) w:=by simp only [getObj,Sem.run,aI]
   have kN:=(apr.1 aI).1;have Ee:a.findIdx? (fun e=>(e.born:Int) == (n:Int))=some j:=by rw [<-g1];cases a with | mk rC=>simp
   have bw:(asInt (.int cY (Int.ofNat n))).run P w=.ok (n:Int) w:=by simp [asInt,asIntOf]
   refine ⟨{w with heap:=w.heap.setIfInBounds p.aS (.map (a.modify j fun e=>{e with val:=Y}) clock)},?_,s.set (p:=p) (by rw [aG];rfl) ai cC (by simp) (fun j bC=>?_) rfl rfl rfl (fun _ _ _ e=>by cases e) ?_⟩
   . simp only [Instr.entryStore,Sem.run_bind,eN,Result.andThen_ok,bw,Ee,setObj,Sem.run,aI]
   . simp only [apJ];rw [apu (fun e=>bC e.symm)]
   . exact ⟨p,a.modify j fun e=>{e with val:=Y},ai,cC,by simp [kN],by rw [Array.toList_modify];exact g2⟩
theorem Qy {w:World} {E:Env} {da:TypeId} {e:dJ} (iL:xE P w E da e) {k:V} {K:Value} (aA:Rel E k K):∀(es:List cb) (l:List MapEntry) (r:Option cb) (i:Nat),nT e k es=some r->dq E es l->
 (r=none->(Instr.findAsking da K l i).run P w=.ok none w)/\
 (∀m,r=some m->∃j dG,(Instr.findAsking da K l i).run P w=.ok (some (i+j,dG.val)) w/\l[j]? =some dG/\dG.key=K/\Rel E m.v dG.val/\dG.born=m.born/\Instr.sameBits 10000 K K=true/\dq E es (l.modify j fun dG=>{dG with key:=K}))
 | [],l,r,i,h,aD=>by simp only [dq] at aD;subst aD;simp only [nT,apq] at h;subst h;exact ⟨fun _=>rfl,fun m hm=>by cases hm⟩
 | m::ms,l,r,i,h,aD=>by
   obtain ⟨dG,es,rfl,U,ab,aI,bq⟩:=aD;simp only [nT] at h;cases aW:e.run k m.k with
   | none=>rw [aW] at h;cases h
   | some b=>
     rw [aW] at h;simp only at h;obtain ⟨aj,an⟩:=iL _ _ _ _ _ aW aA U;cases b with
     | true=>
       simp only [apt,apq] at h;subst h;obtain ⟨aJ,bE⟩:=an rfl;refine ⟨fun h=>(by cases h),fun cZ hm=>?_⟩;cases hm;exact ⟨0,dG,by simp [Instr.findAsking,aj],rfl,aJ,ab,aI,bE,⟨_,es,rfl,by rw [<-aJ];exact U,ab,aI,bq⟩⟩
     | false=>
       simp only [apA] at h;obtain ⟨g1,g2⟩:=Qy iL aA ms es r (i+1) h bq;refine ⟨fun h=>by simp [Instr.findAsking,aj,g1 h],fun cZ hm=>?_⟩;obtain ⟨j,abh,bJ,a2,a3,a4,a5,gX,pE⟩:=g2 cZ hm;exact ⟨j+1,abh,by simp [Instr.findAsking,aj,bJ];omega,by simpa using a2,a3,a4,a5,gX,⟨dG,_,rfl,U,ab,aI,pE⟩⟩
theorem Tt {az:Fr} {E:Env} {h aa:ae} {w:World} (s:ba az E h w) {t da kC:TypeId} (hu:(underlying t).run P w=.ok (.map da kC) w) {e:dJ} {z:V} {Z:Value} (bm:(zeroValue kC).run P w=.ok Z w) (mx:Rel E z Z)
 {x k v:V} {X K:Value} (ao:Rel E x X) (aA:Rel E k K) (ask:zK P w E da e K) (he:s5 e z h x k=some (v,aa)):c9 az P E w (Instr.mapEntry t X K) v aa:=by
 unfold s5 at he
 split at he
 case h_2=>cases he
 rename_i b;simp only [Rel] at ao;obtain ⟨p,ai,rfl⟩:=ao;have ah:=s.at ai;cases aG:h.get b<;>rw [aG] at he<;>simp only [b'.hN] at he<;>try (cases he;done)
 rename_i es clock;rw [aG] at ah;obtain ⟨q,a,U,cC,aI,bq⟩:=ah;rw [ai] at U;cases U;have eN:(getObj p.aS).run P w=.ok (.map a clock) w:=by simp only [getObj,Sem.run,aI]
 have ka:=ask.check false;have kN:=(apr.1 aI).1;have AI:∀(fF:List cb) (bk:Array MapEntry) (gL:Nat),dq E fF bk.toList->
  ∃w',(setObj p.aS (.map bk gL)).run P w=.ok () w'/\ba az E (h.set b (.mp fF gL)) w':=by
  intro fF bk gL hm;refine ⟨{w with heap:=w.heap.setIfInBounds p.aS (.map bk gL)},by simp only [setObj,Sem.run,aI],s.set (p:=p) (by rw [aG];rfl) ai cC (by simp) (fun j bC=>?_) rfl rfl rfl (fun _ _ _ e=>by cases e) ?_⟩
  . simp only [apJ];rw [apu (fun e=>bC e.symm)]
  . exact ⟨p,bk,ai,cC,by simp [kN],hm⟩
 cases aB:nT e k es with
 | none=>rw [aB] at he;cases he
 | some r=>
   rw [aB] at he;simp only at he;obtain ⟨g1,g2⟩:=Qy ask.eq aA es a.toList r 0 aB bq;cases r with
   | none=>
     simp only [apq,aqw] at he;obtain ⟨rfl,rfl⟩:=he;have bJ:=ask.find (g1 rfl);obtain ⟨w',d1,d2⟩:=AI (es++[⟨k,z,clock⟩]) (a.push ⟨K,Z,clock⟩) (clock+1) (by
      have:∀(es:List cb) (l:List MapEntry),dq E es l->dq E (es++[⟨k,z,clock⟩]) (l++[⟨K,Z,clock⟩]):=by
       intro es
       induction es with
       | nil=>intro l ar;simp only [dq] at ar;subst ar;exact ⟨_,_,rfl,aA,mx,rfl,rfl⟩
       | cons m ms bh=>intro l ar;obtain ⟨dG,fF,rfl,bR,b7,eL,ic⟩:=ar;exact ⟨dG,_,rfl,bR,b7,eL,bh _ ic⟩
      simpa using this es a.toList bq)
     refine ⟨.tuple #[Z,goInt clock],w',E,?_,Env.le.refl E,?_,d2⟩
     . simp only [Instr.mapEntry,Sem.run_bind,hu,Result.andThen_ok,eN,ka,bJ,bm,d1,Sem.run_pure]
     . simp only [Rel,bg];exact ⟨_,rfl,_,_,rfl,mx,_,_,rfl,rfl,rfl⟩
   | some m=>
     simp only [apq,aqw] at he;obtain ⟨rfl,rfl⟩:=he;obtain ⟨j,dG,bJ,a2,a3,a4,a5,gX,pE⟩:=g2 m rfl;rw [apX] at bJ;have bR:=ask.find bJ;have av:a[j]? =some dG:=by simpa using a2
     obtain ⟨w',d1,d2⟩:=AI es (a.modify j fun dG=>{dG with key:=K}) clock (by rw [Array.toList_modify];exact pE);refine ⟨.tuple #[dG.val,goInt dG.born],w',E,?_,Env.le.refl E,?_,d2⟩
     . simp only [Instr.mapEntry,Sem.run_bind,hu,Result.andThen_ok,eN,ka,bR,av,Option.map,Option.getD,a3,Instr.keyThatStays,gX,ap0,Sem.run_pure,d1]
     . simp only [Rel,bg];exact ⟨_,rfl,_,_,rfl,a4,_,_,rfl,by rw [a5];rfl,rfl⟩
theorem aiQ {az:Fr} {E:Env} {h aa:ae} {w:World} (s:ba az E h w) {t:TypeId} {x k v:V} {X K:Value} (ao:Rel E x X) (aA:Rel E k K) (he:(Fj P t).run x k h=.val v aa):c9 az P E w (Instr.mapEntry t X K) v aa:=by
 unfold Fj at he;cases aE:bc P t with
 | none=>rw [aE] at he;cases he
 | some aP=>
   rw [aE] at he;simp only at he;have hu:=fA aE w;cases bX:aP.bj<;>rw [bX] at he<;>simp only at he<;>try (cases he;done)
   rename_i da kC;rw [bX] at hu;cases het:bc P kC with
   | none=>rw [het] at he;cases he
   | some bf=>
     rw [het] at he;simp only at he;cases bm:bf.zero with
     | none=>rw [bm] at he;cases he
     | some z=>
       rw [bm] at he;simp only at he;obtain ⟨vd,nh,mx,_⟩:=zq (P:=P) het bm E w;cases qb:jk P da with
       | true=>
         rw [qb] at he;simp only [apt,DY] at he;cases hm:s5 ⟨jF h⟩ z h x k with
         | none=>rw [hm] at he;cases he
         | some r=>
           rw [hm] at he;simp only [a_.val.injEq] at he;obtain ⟨rfl,rfl⟩:=he;exact Tt s hu nh mx ao aA (HA s qb K) hm
       | false=>
         rw [qb] at he;simp only [apA] at he;cases cD:l6 P da with
         | false=>rw [cD] at he;cases he
         | true=>
           rw [cD] at he;simp only [apt,xY] at he;cases aG:lp P da k with
           | false=>rw [aG] at he;cases he
           | true=>
             rw [aG] at he;simp only [apt] at he;cases hm:s5 (structEq P da) z h x k with
             | none=>rw [hm] at he;cases he
             | some r=>
               rw [hm] at he;simp only [a_.val.injEq] at he;obtain ⟨rfl,rfl⟩:=he;exact Tt s hu nh mx ao aA (HB cD aG aA) hm
end
section
variable {P:Program}
theorem AX (n:Nat):∀(l:List Nat),pX l n=true↔n ∈ l
 | []=>by simp [pX]
 | x::xs=>by
   simp only [pX];cases ah:Nat.beq x n with
   | true=>have:=aqj ah;subst this;simp
   | false=>
     have cT:x≠n:=fun e=>by subst e;rw [arh] at ah;cases ah
     simp [AX n xs,Ne.symm cT]
theorem ac7 {a:Array Nat} {seen:List Nat} (h:a.toList=seen.reverse) (n:Nat):a.contains n=pX seen n:=by rw [aqg,AX,Array.contains_iff_mem,<-aqY,h,List.mem_reverse]
theorem Kz {E:Env} {a:Array Nat} {seen:List Nat} (h:a.toList=seen.reverse):∀(ms:List cb) (l:List MapEntry),dq E ms l->dq E (leftOf seen ms) (l.filter fun e=>!a.contains e.born)
 | [],l,aD=>by simp only [dq] at aD;subst aD;rfl
 | m::ms,l,aD=>by
   obtain ⟨e,es,rfl,U,ab,aI,bq⟩:=aD;have bh:=Kz h ms es bq;have aq:a.contains e.born=pX seen m.born:=by rw [ac7 h,aI]
   cases ah:pX seen m.born with
   | true=>
     rw [ah] at aq;rw [List.filter_cons_of_neg (by rw [aq];decide)];simp only [leftOf,ah,apt];exact bh
   | false=>
     rw [ah] at aq;rw [List.filter_cons_of_pos (by rw [aq];decide)];simp only [leftOf,ah,apA];exact ⟨e,_,rfl,U,ab,aI,bh⟩
theorem Hu {E:Env} {last:Nat}:∀(ms:List cb) (l:List MapEntry),dq E ms l->l.all (fun e=>decide (e.born>=last))=qZ last ms
 | [],l,aD=>by simp only [dq] at aD;subst aD;rfl
 | m::ms,l,aD=>by
   obtain ⟨e,es,rfl,U,ab,aI,bq⟩:=aD;simp only [qZ,aqT,Hu ms es bq,aI];cases ah:Nat.ble last m.born with
   | true=>rw [apF] at ah;simp [ah]
   | false=>
     have:¬last<=m.born:=by rw [<-apF,ah];simp
     simp [this]
theorem Nu {E:Env} {n:Nat}:∀(ms:List cb) (l:List MapEntry) (m:cb),dq E ms l->ss n ms=some m->∃e,l.find? (fun e=>e.born == n)=some e/\Rel E m.k e.key/\Rel E m.v e.val
 | [],l,m,aD,h=>by cases h
 | x::xs,l,m,aD,h=>by
   obtain ⟨e,es,rfl,U,ab,aI,bq⟩:=aD;simp only [ss] at h;cases ah:Nat.beq x.born n with
   | true=>
     rw [ah] at h;simp only [apt,apq] at h;subst h;have:=aqj ah;exact ⟨e,by simp [List.find?_cons,aI,this],U,ab⟩
   | false=>
     rw [ah] at h;simp only [apA] at h;obtain ⟨c6,g1,g2⟩:=Nu xs es m bq h;have cT:x.born≠n:=fun e=>by rw [e,arh] at ah;cases ah
     exact ⟨c6,by simp [List.find?_cons,aI,cT,g1],g2⟩
theorem K4 {k:b'} {f:List cb->Nat->a_} {v:V} {aa:ae} (h:k.hN .fail f=.val v aa):∃es clock,k=.mp es clock/\f es clock=.val v aa:=by
 cases k<;>simp only [b'.hN] at h<;>first
  | (cases h;done)
  | exact ⟨_,_,rfl,h⟩
theorem T9 {v:V} {f:aO->Nat->a_} {r:V} {aa:ae} (h:v.iV .fail f=.val r aa):∃b off,v=.ptr b off/\f b off=.val r aa:=by
 cases v<;>simp only [V.iV] at h<;>first
  | (cases h;done)
  | exact ⟨_,_,rfl,h⟩
theorem ak0 {az:Fr} {E:Env} {h aa:ae} {w:World} (s:ba az E h w) {t da kC:TypeId} (hu:(underlying t).run P w=.ok (.map da kC) w) {x v:V} {X:Value} (ao:Rel E x X) (he:rangeMap x h=.val v aa):c9 az P E w (Instr.range t X) v aa:=by
 have dC:=s.fresh h.next (aps _)
 have dt:E.put (aC h.next) ⟨w.heap.size,0,0⟩ (aC h.next)=some ⟨w.heap.size,0,0⟩:=by unfold Env.put;rw [apB rfl]
 unfold rangeMap at he
 split at he
 . simp only [a_.val.injEq] at he;obtain ⟨rfl,rfl⟩:=he;simp only [Rel] at ao;subst ao;refine ⟨.pointer (some ⟨w.heap.size,0,none⟩),{w with heap:=w.heap.push (.mapIter none 0 #[] 0)},_,?_,Env.mC (p:=⟨w.heap.size,0,0⟩) dC,?_,s.alloc 0 ?_⟩
   . simp only [Instr.range,Sem.run_bind,hu,Result.andThen_ok,Sem.run_pure,run_newObj]
   . simp only [Rel];exact ⟨_,dt,by simp⟩
   . exact ⟨_,none,#[],dt,s.frame.size,rfl,by simp,rfl,rfl⟩
 . rename_i c;obtain ⟨es,clock,aG,he⟩:=K4 he;simp only [a_.val.injEq] at he;obtain ⟨rfl,rfl⟩:=he;simp only [Rel] at ao;obtain ⟨p,ai,rfl⟩:=ao;have ah:=s.at ai;rw [aG] at ah;obtain ⟨q,a,U,cC,aI,bq⟩:=ah;rw [ai] at U;cases U;have eN:(getObj p.aS).run P w=.ok (.map a clock) w:=by simp only [getObj,Sem.run,aI]
   have hle:E.le (E.put (aC h.next) ⟨w.heap.size,0,0⟩):=Env.mC dC;refine ⟨.pointer (some ⟨w.heap.size,0,none⟩),{w with heap:=w.heap.push (.mapIter (some p.aS) clock #[] clock)},_,?_,hle,?_,s.alloc 0 ?_⟩
   . simp only [Instr.range,Sem.run_bind,hu,Result.andThen_ok,Sem.run_pure,eN,run_newObj]
   . simp only [Rel];exact ⟨_,dt,by simp⟩
   . exact ⟨_,some p.aS,#[],dt,s.frame.size,rfl,by simp,rfl,p,hle _ _ ai,rfl⟩
 . cases he
theorem aje {az:Fr} {E:Env} {h aa:ae} {w:World} (s:ba az E h w) {x v:V} {X:Value} {ty:TypeId} (ao:Rel E x X) (he:gG x h=.val v aa):c9 az P E w (Instr.next X false ty) v aa:=by
 unfold gG at he;obtain ⟨b,off,rfl,U⟩:=T9 he;clear he;have ah:=s.at (p:=_) (by simp only [Rel] at ao;exact ao.choose_spec.1);cases aG:h.get b<;>rw [aG] at U<;>simp only at U<;>try (cases U;done)
 rename_i src since seen last;rw [aG] at ah;cases aY:Nat.beq off 0 with
 | false=>rw [aY] at U;cases U
 | true=>
 rw [aY] at U;simp only [apt] at U;have aY:=aqj aY;subst aY;obtain ⟨p,m,a,ai,cC,lM,a7,bw,iT⟩:=ah;simp only [Rel] at ao;obtain ⟨q,aq,rfl⟩:=ao;rw [ai] at aq;cases aq;have eN:(getObj p.aS).run P w=.ok (.mapIter m since a last) w:=by simp only [getObj,Sem.run,a7]
 have over:Rel E (.tuple [.bool false]) (.tuple #[.bool false]):=by simp only [Rel,bg];exact ⟨_,rfl,_,_,rfl,rfl,rfl⟩
 cases src with
 | none=>
   simp only [tR] at iT;subst iT;simp only [a_.val.injEq] at U;obtain ⟨rfl,rfl⟩:=U;refine c9.plain (Z:=.tuple #[.bool false]) s ?_ over;simp only [Instr.next,lM,Sem.run_bind,eN,Result.andThen_ok,Sem.run_pure]
 | some c=>
   simp only [tR] at iT;obtain ⟨pj,mr,rfl⟩:=iT;simp only at U;obtain ⟨es,clock,A8,U⟩:=K4 U;have pZ:=s.at mr;rw [A8] at pZ;obtain ⟨q,im,g1,_,g3,g4⟩:=pZ;rw [mr] at g1;cases g1;have wu:(getObj pj.aS).run P w=.ok (.map im clock) w:=by simp only [getObj,Sem.run,g3]
   cases au:(!seen.isEmpty&&(!es.isEmpty&&qZ last es)) with
   | true=>rw [au] at U;cases U
   | false=>
     rw [au] at U;simp only [apA] at U;have av:a.isEmpty=seen.isEmpty:=by
      have:a.toList.isEmpty=seen.reverse.isEmpty:=by rw [bw]
      simpa using this
     have aK:im.isEmpty=es.isEmpty:=by
      cases es with
      | nil=>simp only [dq] at g4;have:im=#[]:=ard.1 g4
             simp [this]
      | cons y cu=>obtain ⟨e,l,ar,_⟩:=g4;have:im.toList.isEmpty=false:=by rw [ar];rfl
                   simpa using this
     have bF:im.all (fun e=>decide (e.born>=last))=qZ last es:=by rw [<-Hu es _ g4,Array.all_toList]
     have A2:(!a.isEmpty&&!im.isEmpty&&im.all (fun e=>decide (e.born>=last)))=false:=by rw [av,aK,bF,Bool.and_assoc];exact au
     have p6:=Kz (E:=E) bw es _ g4;have A6:(im.filter fun e=>!a.contains e.born).toList=im.toList.filter fun e=>!a.contains e.born:=by simp
     cases ar:leftOf seen es with
     | nil=>
       rw [ar] at U p6;simp only [KT,a_.val.injEq] at U;obtain ⟨rfl,rfl⟩:=U;simp only [dq] at p6;have eX:(im.filter fun e=>!a.contains e.born)=#[]:=by apply ard.1;rw [A6,p6]
       refine c9.plain (Z:=.tuple #[.bool false]) s ?_ over;simp only [Instr.next,lM,Sem.run_bind,eN,Result.andThen_ok,wu,A2,apG,ap2,eX,Sem.run_pure];simp [choose,Sem.run,Question.forced]
     | cons y cu=>
       rw [ar] at U p6;cases cu with
       | cons _ _=>cases U
       | nil=>
         simp only [KT] at U;cases aL:Nat.blt y.born since with
         | false=>rw [aL] at U;cases U
         | true=>
           rw [aL] at U;simp only [apt,a_.val.injEq] at U;obtain ⟨rfl,rfl⟩:=U;rw [apQ] at aL;obtain ⟨e,r,aD,cm,cz,fH,f_⟩:=p6;simp only [dq] at f_;subst f_;have eX:(im.filter fun e=>!a.contains e.born)=#[e]:=by apply ard.1;rw [A6,aD]
           rw [<-fH] at aL ⊢
           let b_:Obj:=.mapIter (some pj.aS) since (a.push e.born) clock
           let w':World:={w with heap:=w.heap.setIfInBounds p.aS b_}
           have kN:=(apr.1 a7).1;have qf:(setObj p.aS b_).run P w=.ok () w':=by simp only [setObj,Sem.run,a7];rfl
           have p9:¬since<=e.born:=by omega
           refine ⟨.tuple #[.bool true,e.key,e.val],w',E,?_,Env.le.refl E,?_,s.set (p:=p) (by rw [aG];rfl) ai cC (by simp [w']) (fun j bC=>?_) rfl rfl rfl (fun _ _ _ e=>by cases e) ?_⟩
           . simp only [Instr.next,lM,Sem.run_bind,eN,Result.andThen_ok,wu,A2,apG,ap2,eX,Sem.run_pure];have U:(#[e]:Array MapEntry).filter (fun x=>decide (x.born<since))=#[e]:=by simp [aL]
             have ab:(#[e]:Array MapEntry).filter (fun x=>decide (x.born>=since))=#[]:=by simp [aL]
             have lk:(choose (.mapNext 1)).run P w=.ok 0 w:=by simp [choose,Sem.run,Question.forced]
             simp only [U,ab];simp [lk];change ((setObj p.aS b_).run P w).andThen _=_;rw [qf];rfl
           . simp only [Rel,bg];exact ⟨_,rfl,_,_,rfl,rfl,_,_,rfl,cm,_,_,rfl,cz,rfl⟩
           . simp only [w',apJ];rw [apu (fun e=>bC e.symm)]
           . exact ⟨p,some pj.aS,a.push e.born,ai,cC,lM,by simp [w',kN,b_],by simp [bw],pj,mr,rfl⟩
theorem abj {az:Fr} {E:Env} {h aa:ae} {w:World} (s:ba az E h w) {x v:V} {X:Value} (ao:Rel E x X) (he:t_ x h=.val v aa):c9 az P E w (Instr.entry X) v aa:=by
 unfold t_ at he;obtain ⟨b,off,rfl,U⟩:=T9 he;clear he;have ah:=s.at (p:=_) (by simp only [Rel] at ao;exact ao.choose_spec.1);cases aG:h.get b<;>rw [aG] at U<;>simp only at U<;>try (cases U;done)
 rename_i src since seen last;rw [aG] at ah;cases aY:Nat.beq off 0 with
 | false=>rw [aY] at U;cases U
 | true=>
 rw [aY] at U;simp only [apt] at U;have aY:=aqj aY;subst aY;obtain ⟨p,m,a,ai,cC,lM,a7,bw,iT⟩:=ah;simp only [Rel] at ao;obtain ⟨q,aq,rfl⟩:=ao;rw [ai] at aq;cases aq;have eN:(getObj p.aS).run P w=.ok (.mapIter m since a last) w:=by simp only [getObj,Sem.run,a7]
 cases src with
 | none=>cases U
 | some c=>
   simp only [tR] at iT;obtain ⟨pj,mr,rfl⟩:=iT;simp only at U;cases seen with
   | nil=>cases U
   | cons n aoP=>
   simp only at U;obtain ⟨es,clock,A8,U⟩:=K4 U;have pZ:=s.at mr;rw [A8] at pZ;obtain ⟨q,im,g1,_,g3,g4⟩:=pZ;rw [mr] at g1;cases g1;have wu:(getObj pj.aS).run P w=.ok (.map im clock) w:=by simp only [getObj,Sem.run,g3]
   rename_i acI _;clear acI;cases hV:Nat.beq clock last with
   | false=>rw [hV] at U;cases U
   | true=>
     rw [hV] at U;simp only [apt] at U;have:=aqj hV;subst this;cases I5:ss n es with
     | none=>rw [I5] at U;cases U
     | some y=>
       rw [I5] at U;simp only [a_.val.injEq] at U;obtain ⟨rfl,rfl⟩:=U;obtain ⟨e,f1,f2,f3⟩:=Nu es _ y g4 I5;have ada:a.back? =some n:=by
        have:a.toList.getLast? =some n:=by rw [bw];simp
        simpa using this
       have um:im.find? (fun e=>e.born == n)=some e:=by rw [<-f1];simp
       refine c9.plain (Z:=.tuple #[e.key,e.val]) s ?_ ?_
       . simp only [Instr.entry,lM,Sem.run_bind,eN,Result.andThen_ok,ada,wu,bne_self_eq_false,apG,ap2,um,Sem.run_pure]
       . simp only [Rel,bg];exact ⟨_,rfl,_,_,rfl,f2,_,_,rfl,f3,rfl⟩
end
section
variable {P:Program}
theorem XQ {az:Fr} {E:Env} {h aa:ae} {w:World} (s:ba az E h w) {t u e:TypeId} {size:Nat} (aen:1<=size) {x v:V} {X Y:Value} {ty:TypeId} {n:Nat} {new:List V} {l:List Value}
 (ar:bg E new l) (hj:new.length=n * size) (fr:n<=top)
 (eb:∀(w':World) (A:Option Addr) (c1 fB:Nat),c1+n<=fB->(∀a,A=some a->(storeCells (a.add (c1 * size)) l).run P w=.ok () w')->(A=none->w'=w)->
   (Builtin.append_ #[t,u] ty #[.slice A c1 fB,Y]).run P w=.ok (.slice A (c1+n) fB) w')
 (qa:∀(A:Option Addr) (c1 fB:Nat) (bG:List Value),(∀w':World,w'.heap=w.heap->(Builtin.firstCells size c1 (.slice A c1 fB)).run P w'=.ok bG.toArray w')->¬c1+n<=fB->c1+n<=top->bG.length=c1 * size->l.length=n * size->
   ∃cap rest w',c1+n<=cap/\cap * size<=((bG++l).toArray++rest).size/\
   (Builtin.append_ #[t,u] ty #[.slice A c1 fB,Y]).run P w=.ok (.slice (some ⟨w.heap.size,0,none⟩) (c1+n) cap) w'/\
   w'.heap=w.heap.push (.cells ((bG++l).toArray++rest) e)/\w'.os=w.os/\w'.tape=w.tape/\w'.output=w.output)
 (he:Hz size n new x h=.val v aa) (ao:Rel E x X):c9 az P E w (Builtin.append_ #[t,u] ty #[X,Y]) v aa:=by
 have p5:l.length=n * size:=by rw [ar.length,hj]
 unfold Hz at he;cases x<;>simp only at he<;>try (cases he;done)
 . -- a slice of known capacity
   rename_i b off len cap;simp only [Rel] at ao;obtain ⟨p,ai,sL,rfl⟩:=ao;simp only [vE] at he;cases ei:Nat.ble (len+n) cap with
   | true=>
     rw [ei] at he;simp only [apt] at he;rw [apF] at ei;cases ll:lay h b (off+len * size) new with
     | none=>rw [ll] at he;cases he
     | some U=>
     rw [ll] at he;simp only [a_.val.injEq] at he;obtain ⟨rfl,rfl⟩:=he;obtain ⟨w',cD,jA⟩:=yP (P:=P) s ar ll ai;refine ⟨_,w',E,eb w' _ _ _ ei (fun a bw=>?_) (fun bw=>by cases bw),Env.le.refl E,?_,jA⟩
     . cases bw;rw [add_eq,aqD];exact cD
     . simp only [Rel];exact ⟨p,ai,ei,rfl⟩
   | false=>
     rw [ei] at he;simp only [apA] at he;have J0:¬len+n<=cap:=by rw [<-apF,ei];simp
     obtain ⟨ah,he⟩:=j9 he;simp only [apn,apF] at ah;cases hold:ps h size b off len with
     | none=>rw [hold] at he;cases he
     | some bG=>
     rw [hold] at he;simp only at he;cases gh:lv h (bG++new) size false with
     | none=>rw [gh] at he;cases he
     | some U=>
     rw [gh] at he;simp only [a_.val.injEq] at he;obtain ⟨rfl,rfl⟩:=he;obtain ⟨q,br,aq,dZ,mo,hX⟩:=zy (P:=P) s ⟨p,ai⟩ hold;rw [ai] at aq;cases aq;obtain ⟨c,rest,w',cm,cz,fH,f_,lU,qj,qk⟩:=qa (some ⟨p.aS,p.base+off,none⟩) (len) (cap) _
      (fun w' hw=>by simp only [Builtin.firstCells];exact hX w' hw) J0 ah.1 (by rw [dZ.length,mo]) p5
     obtain ⟨ay,g1,g2,g3⟩:=wW (w':=w') (b5:=(0,0)) s (dZ.append ar) gh cz (.inr (aps _)) (fun _=>rfl) f_ lU qj qk;refine ⟨_,w',ay,fH,g1,?_,g3⟩;simp only [Rel];exact ⟨_,g2,by simp only;omega,by simp⟩
 . -- one that was appended to
   rename_i b off len idx;have Bx:=ao;simp only [Rel] at ao;obtain ⟨p,ai,RB,rfl⟩:=ao;simp only [xL] at he;cases jf:Nat.beq n 0 with
   | true=>
     rw [jf] at he;simp only [apt] at he;cases he;rw [apT] at jf;subst jf;have jR:l=[]:=by cases l with | nil=>rfl | cons _ _=>simp at p5
     subst jR;refine ⟨_,w,E,eb w _ _ _ (by omega) (fun a _=>rfl) (fun bw=>by cases bw),Env.le.refl E,?_,s⟩;simpa using Bx
   | false=>
     rw [jf] at he;simp only [apA] at he;have ri:=s.at ai;cases aG:h.get b with
     | dead=>rw [aG] at he;cases he
     | view _ _=>rw [aG] at he;cases he
     | iter _ _=>rw [aG] at he;cases he
     | mp _ _=>rw [aG] at he;cases he
     | fz _=>rw [aG] at he;cases he
     | hC=>rw [aG] at he;cases he
     | hM _=>rw [aG] at he;cases he
     | gR _ _ _ _=>rw [aG] at he;cases he
     | cells N cs ct st=>
       rw [aG] at he ri;simp only [b'.on] at he;obtain ⟨ah,he⟩:=j9 he;simp only [apn,apF,apT] at ah;obtain ⟨⟨Jf,JP,JQ⟩,Bk⟩:=ah;cases hold:ps h size b off len with
       | none=>rw [hold] at he;cases he
       | some bG=>
       rw [hold] at he;simp only at he;cases gh:lv (h.set b .dead) (bG++new) size st with
       | none=>rw [gh] at he;cases he
       | some U=>
       rw [gh] at he;simp only [a_.val.injEq] at he;obtain ⟨rfl,rfl⟩:=he;obtain ⟨q,br,aq,dZ,mo,hX⟩:=zy (P:=P) s ⟨p,ai⟩ hold;rw [ai] at aq;cases aq;obtain ⟨bK,q,c,el,b5,av,cC,a7,rm,cD,kH,bt⟩:=ri;rw [ai] at av;cases av;have Bl:=aen;have kH:=kH (by omega);rw [Jf] at kH;have zt:=s.kill ai;by_cases ei:len+n<=p.cap-idx
       . -- in place
         have aL:=(apr.1 a7).1;have adQ:(idx+len+n) * size<=p.cap * size:=aqi _ (by omega);have hbound:p.base+off+len * size+0+l.length<=c.size:=by
          rw [p5,Bk];have:(idx+len+n) * size=idx * size+len * size+n * size:=by rw [aqr,aqr]
          omega
         have Bw:=Gf (P:=P) aL el b5 (p.base+off+len * size) l c 0 (FE JQ ar) hbound rm;rw [Mg a7,aqH] at Bw;have J3:=eb (lC w p.aS (qm c (p.base+off+len * size) l) el b5) (some ⟨p.aS,p.base+off,none⟩) _ _ ei
          (fun a bw=>by cases bw;rw [add_eq];exact Bw) (fun bw=>by cases bw)
         unfold lv at gh;obtain ⟨au,gh⟩:=eJ gh;simp only [apn,apF] at au;simp only [apq] at gh;subst gh;have dC:=s.fresh h.next (aps _)
         have hle:E.le (E.put (aC h.next) ⟨p.aS,p.base+off,p.cap-idx⟩):=Env.mC dC;have dt:E.put (aC h.next) ⟨p.aS,p.base+off,p.cap-idx⟩ (aC h.next)=some ⟨p.aS,p.base+off,p.cap-idx⟩:=by unfold Env.put;rw [apB rfl]
         refine ⟨_,_,_,J3,hle,?_,ba.add (p:=⟨p.aS,p.base+off,p.cap-idx⟩) zt (by rw [Mh];exact aps _) (fun j _ bC=>Mf _ _ _ bC) cC (fun bO fk iR ij heq=>?_) rfl rfl rfl (fun _ _ _ e=>by injection e with _ _ bF;omega) ?_⟩
         . simp only [Rel];exact ⟨_,dt,by simp only;omega,by simp⟩
         . rw [ae.dV] at iR;by_cases jx:b=bO
           . rw [apB jx] at iR;cases iR
           . rw [apu jx] at iR;exact jx (s.inj b bO p fk (by rw [aG];rfl) iR ai ij heq.symm)
         . have Jz:(bG++new).length=(len+n) * size:=by rw [apC,mo,hj,aqr]
           have adE:(len+n) * size=len * size+n * size:=aqr _ _ _;refine ⟨au.1,_,_,el,b5,dt,cC,CG aL _ _ _,by rw [rD];exact rm,cD,fun _=>?_,?_⟩
           . rw [rD];simp only;have:idx * size + (p.cap-idx) * size=p.cap * size:=by rw [<-aqr];congr 1;omega
             omega
           . refine ⟨by rw [rD,Jz,aqr];simp only;omega,fun i y ax a8=>?_⟩;rw [Cq _ _ _ _ (by omega) (by omega),apB (by omega),arD];rw [Fa _ _ _ _ (by omega)] at a8;simp only at a8;by_cases cx:i<len * size
             . rw [apu (by omega)] at a8;rw [apM (by omega)];have eN:=hX w rfl;have JX:=run_loadCells (P:=P) (w:=w) (off:=p.base+off) (n:=len * size) a7 (by omega);rw [JX] at eN;simp only [Result.ok.injEq,arG] at eN;have Bc:br=(c.toList.drop (p.base+off)).take (len * size):=by
                have:=congrArg Array.toList eN;simpa using this.symm
               obtain ⟨tz,hZ,aD⟩:=dZ.get i bG[i] (apo (by omega));rw [apo (by omega)];rw [Bc] at hZ;rw [aqk (by omega),aqA] at hZ;simp only [aq1] at hZ;rw [a8] at hZ;cases hZ;exact Rel.mono hle _ _ aD
             . rw [apB (by omega)] at a8;rw [apN (by omega)];have bF:p.base+off+i - (p.base+off+len * size)=i-bG.length:=by omega
               rw [bF] at a8;have Bd:i-bG.length<new.length:=by omega
               obtain ⟨tz,hZ,aD⟩:=ar.get (i-bG.length) new[i-bG.length] (apo Bd);rw [a8] at hZ;cases hZ;rw [apo Bd];exact Rel.mono hle _ _ aD
       . -- elsewhere
         obtain ⟨b2,rest,w',cm,cz,fH,f_,lU,qj,qk⟩:=qa (some ⟨p.aS,p.base+off,none⟩) (len) (p.cap-idx) _
          (fun w' hw=>by simp only [Builtin.firstCells];exact hX w' hw) ei JP (by rw [dZ.length,mo]) p5
         obtain ⟨ay,g1,g2,g3⟩:=wW (w':=w') (b5:=(0,0)) zt (dZ.append ar) gh cz (.inr (aps _)) (fun _=>rfl) f_ lU qj qk;refine ⟨_,w',ay,fH,g1,?_,g3⟩;simp only [Rel];exact ⟨_,g2,by simp only;omega,by simp⟩
 . -- nil
   simp only [Rel] at ao;subst ao;simp only [vF] at he;cases jf:Nat.beq n 0 with
   | true=>
     rw [jf] at he;simp only [apt] at he;cases he;rw [apT] at jf;subst jf;exact c9.plain s (eb w _ _ _ (by omega) (fun a bw=>by cases bw) (fun _=>rfl)) (by simp [Rel])
   | false=>
     rw [jf] at he;simp only [apA] at he;have wE:¬n=0:=by intro e;subst e;simp at jf
     cases gh:lv h new size false with
     | none=>rw [gh] at he;cases he
     | some U=>
     rw [gh] at he;simp only [a_.val.injEq] at he;obtain ⟨rfl,rfl⟩:=he;obtain ⟨c,rest,w',cm,cz,fH,f_,lU,qj,qk⟩:=qa (none) (0) (0) []
      (fun w' _=>by simp [Builtin.firstCells]) (by omega) (by omega) (by simp) p5
     obtain ⟨ay,g1,g2,g3⟩:=wW (w':=w') (b5:=(0,0)) s ar gh cz (.inr (aps _)) (fun _=>rfl) f_ lU qj qk;refine ⟨_,w',ay,fH,g1,?_,g3⟩;simp only [Rel];exact ⟨_,g2,by simp only;omega,by simp⟩
structure Hr (P:Program) (t u e:TypeId) (size bytes:Nat) (k:IntKind) (z:Value):Prop where
 ut:∀w,(underlying t).run P w=.ok (.slice e) w
 tu:∀w,(underlying u).run P w=.ok (.int k) w
 k5:∀w,(sizeOf e).run P w=.ok size w
 DE:∀w,∃i,(typeInfo e).run P w=.ok i w/\i.bytes=bytes
 zI:∀w,(zeroValue e).run P w=.ok z w
 vc:z.cells.size=size
 pos:1<=size
 small:bytes<=4096
theorem Wm (c:Array Value):Builtin.zeroCells c 0=#[]:=by simp [Builtin.zeroCells]
theorem alC {t u e:TypeId} {size bytes:Nat} {k:IntKind} {z:Value} (H:Hr P t u e size bytes k z) {n:Nat} (aV:n<=100000) {ty:TypeId} {w w':World} {A:Option Addr} {c1 fB:Nat} (ei:c1+n<=fB)
 (cD:∀a,A=some a->(storeCells (a.add (c1 * size)) (Builtin.zeroCells z.cells n).toList).run P w=.ok () w') (dC:A=none->w'=w):
 (Builtin.append_ #[t,u] ty #[.slice A c1 fB,.int .i64 n]).run P w=.ok (.slice A (c1+n) fB) w':=by
 have hw:IntKind.i64.wrap (n:Int)=n:=by unfold IntKind.wrap;simp [IntKind.bits,IntKind.signed];omega
 obtain ⟨i,ax,rn⟩:=H.DE w;have ue:¬(281474976710656 < (n:Int) * (i.bytes:Int)):=by rw [rn];have U:n * bytes<=100000 * 4096:=Nat.mul_le_mul aV H.small;have ab:((n * bytes:Nat):Int)=(n:Int) * (bytes:Int):=Int.natCast_mul _ _;omega
 have EO:¬((n:Int)<0):=by omega
 have cn:size≠0:=by have:=H.pos;omega
 have bw:∀w,(asInt (.int .i64 (n:Int))).run P w=.ok (n:Int) w:=fun w=>by simp [asInt,asIntOf]
 have Eu:∀w,(asInt (.int .i64 0)).run P w=.ok 0 w:=fun w=>by simp [asInt,asIntOf]
 have yI:IntKind.i64.wrap 0=0:=by decide
 cases A with
 | none=>
   have:=dC rfl;subst this;by_cases aY:n=0
   . subst aY;simp [Builtin.append_,H.ut,H.tu,H.k5,Eu,ax,yI,(show c1<=fB from by omega)]
   . simp [Builtin.append_,H.ut,H.tu,H.k5,H.zI,bw,ax,ue,hw,ei,EO,cn,aY]
 | some a=>
   have:=cD a rfl;by_cases aY:n=0
   . subst aY;rw [Wm] at this;simp [Builtin.append_,H.ut,H.tu,H.k5,Eu,ax,yI,(show c1<=fB from by omega),this]
   . simp [Builtin.append_,H.ut,H.tu,H.k5,H.zI,bw,ax,ue,hw,ei,EO,Nat.mul_ne_zero aY cn,this]
theorem alD {t u e:TypeId} {size bytes:Nat} {k:IntKind} {z:Value} (H:Hr P t u e size bytes k z) {n:Nat} (aV:n<=100000) {ty:TypeId} {w:World} (A:Option Addr) (c1 fB:Nat) (bG:List Value)
 (hold:∀w':World,w'.heap=w.heap->(Builtin.firstCells size c1 (.slice A c1 fB)).run P w'=.ok bG.toArray w') (ei:¬c1+n<=fB) (Bv:c1+n<=top) (aT:bG.length=c1 * size) (ar:(Builtin.zeroCells z.cells n).toList.length=n * size):
 ∃cap rest w',c1+n<=cap/\cap * size<=((bG++(Builtin.zeroCells z.cells n).toList).toArray++rest).size/\
  (Builtin.append_ #[t,u] ty #[.slice A c1 fB,.int .i64 n]).run P w=.ok (.slice (some ⟨w.heap.size,0,none⟩) (c1+n) cap) w'/\
  w'.heap=w.heap.push (.cells ((bG++(Builtin.zeroCells z.cells n).toList).toArray++rest) e)/\w'.os=w.os/\w'.tape=w.tape/\w'.output=w.output:=by
 have hw:IntKind.i64.wrap (n:Int)=n:=by simp only [IntKind.wrap,IntKind.bits,IntKind.signed];simp;omega
 obtain ⟨i,ax,rn⟩:=H.DE w;have jU:P.info? e=some i:=by
  simp only [typeInfo,Sem.run_bind,run_program,Result.andThen_ok] at ax;cases aq:P.info? e with
  | none=>rw [aq] at ax;simp at ax
  | some j=>rw [aq] at ax;simp at ax;rw [ax]
 have sK:∀w',(typeInfo e).run P w'=.ok i w':=fun w'=>zp jU w';have ae_:¬(281474976710656 < (n:Int) * (i.bytes:Int)):=by rw [rn];have U:n * bytes<=100000 * 4096:=Nat.mul_le_mul aV H.small;have ab:((n * bytes:Nat):Int)=(n:Int) * (bytes:Int):=Int.natCast_mul _ _;omega
 have ue:¬(281474976710656<Builtin.nextslicecap (c1+n) fB * i.bytes):=by
  have U:fB<c1+n:=by omega
  have:=growslice_fits (bytes:=i.bytes) U (by rw [rn];have ab:(c1+n) * bytes<=top * 4096:=Nat.mul_le_mul Bv H.small;unfold top at ab;omega);omega
 have iM:¬(9223372036854775807 < ((c1:Int) + (n:Int))):=by unfold top at Bv;omega
 have EO:¬((n:Int)<0):=by omega
 have cn:size≠0:=by have:=H.pos;omega
 have bw:∀w,(asInt (.int .i64 (n:Int))).run P w=.ok (n:Int) w:=fun w=>by simp [asInt,asIntOf]
 have Eu:∀w,(asInt (.int .i64 0)).run P w=.ok 0 w:=fun w=>by simp [asInt,asIntOf]
 have yI:IntKind.i64.wrap 0=0:=by decide
 let q:Question:=.appendCap (c1+n) fB e
 let cap:=q.cut (w.tape w.drawn q)
 have kH:c1+n<=cap:=by show c1+n<=(c1+n)+_;omega
 refine ⟨cap,Builtin.zeroCells z.cells (cap - (c1+n)),w.drew.alloc (.cells ((bG++(Builtin.zeroCells z.cells n).toList).toArray++Builtin.zeroCells z.cells (cap - (c1+n))) e),kH,?_,?_,rfl,rfl,rfl,rfl⟩
 . simp only [Array.size_append,List.size_toArray,apC,aT,ar];have:(Builtin.zeroCells z.cells (cap - (c1+n))).size=(cap - (c1+n)) * size:=by simp [Builtin.zeroCells,H.vc]
   rw [this,<-aqr,<-aqr];exact aqi _ (by omega)
 . have f2:=hold w.drew rfl;by_cases aY:n=0
   . subst aY;have Bq:¬c1<=fB:=by omega
     have ac_:¬(9223372036854775807 < (c1:Int)):=by omega
     rw [aqH] at ue;simp [Builtin.append_,H.ut,H.tu,H.k5,H.zI,Eu,yI,sK,Bq,ue,ac_,Question.forced,f2,newRow];refine ⟨rfl,?_⟩;have av:(bG++(Builtin.zeroCells z.cells 0).toList).toArray=bG.toArray:=by rw [Wm];simp
     rw [av];rfl
   . simp [Builtin.append_,H.ut,H.tu,H.k5,H.zI,bw,hw,ae_,EO,Nat.mul_ne_zero aY cn,ei,sK,ue,iM,Question.forced,f2,newRow];refine ⟨rfl,?_⟩;have av:(bG++(Builtin.zeroCells z.cells n).toList).toArray=bG.toArray++Builtin.zeroCells z.cells n:=by simp
     rw [av,Array.append_assoc]
end
section
variable {P:Program}
abbrev cc (rd:Option Nat):Fence:={fn:=fun _=>True,depth:=none,alive:=false,round:=rd}
theorem sz {rd:Option Nat} {n:Nat} {f:FuncId} {args:Array Value} {w:World} {R:Ending->World->Prop}:CallsIn (cc rd) n P f args w R↔Calls P f args w R:=callsIn_wide
theorem F9 {rd:Option Nat} (n:Nat):(cc rd).room n:=fun _ h=>by simp [cc] at h
abbrev qu (x:Value):List PanicEntry:=[{v:=x,recovered:=false}]
structure gJ (P:Program) (call:dR):Prop where
 fn:∀(az:Fr) f args h v aa,f≠dv->call f args h=.val v aa->∀E w xs,bg E args xs->ba az E h w->
  ((∃fn,P.funcs[f]? =some fn/\fn.body.isSome=true)/\Calls P f xs.toArray w fun e w'=>∃ay x,e=.returned x/\E.le ay/\Rel ay v x/\ba az ay aa w')\/
  ∃ay x w',(callFunc f xs.toArray).run P w=.ok (.value x) w'/\E.le ay/\Rel ay v x/\ba az ay aa w'
 cI:∀(az:Fr) f args h v aa,f≠dv->call f args h=.cI v aa->∀E w xs,bg E args xs->ba az E h w->
  (∃fn,P.funcs[f]? =some fn/\fn.body.isSome=true)/\Calls P f xs.toArray w fun e w'=>∃ay x,e=.panicked (qu x)/\E.le ay/\Rel ay v x/\ba az ay aa w'
 Wk:∀(az:Fr) args b h v aa,call dv (args++[.ptr b 0]) h=.val v aa->∀E w xs p,bg E args xs->ba az E h w->E b=some p->
  ∃f tmps assign body,(Instr.yield p.aS xs.toArray).run P w=.ok (.round p.aS f tmps assign body) w/\
   RoundIn (cc none) 0 P p.aS f tmps assign body w fun e w'=>∃ay x,e=.returned x/\E.le ay/\Rel ay v x/\ba az ay aa w'
 Wl:∀args h v aa,call dv args h≠.cI v aa
theorem qC {rd:Option Nat} {o:Oper} (o3:∀c,o.op≠.defer c) (ρ:Operand->Value):o.semAt (cc rd).round ρ=execOp ρ o:=Oper.semAt_eq _ ρ o o3
theorem gd {rd:Option Nat} {o:Oper} {a:Act} {w:World} {az:Fr} {E:Env} {aa:ae} {v:V} {m:Sem Value} {K:Act->World->Prop} {Q:Exit->Act->World->Prop}
 (ao:execOp a.eval o=(do pure (.value (<-m)))) (g:c9 az P E w m v aa) (dL:∀ay x w',E.le ay->Rel ay v x->ba az ay aa w'->K (a.put o.dst x) w') (o3:∀c,o.op≠.defer c:=by intro c h;cases h):
 o.wpIn (cc rd) 0 P a w K Q:=by
 obtain ⟨Z,w',ay,U,ab,aI,bq⟩:=g;refine ⟨fun _ _=>trivial,?_⟩;rw [qC o3,ao,Sem.run_bind,U];exact dL ay Z w' ab aI bq
theorem FK {E:Env} {aw:Nat} {r:bI} {a:Act} (k:RegRel0 E aw r a):∀l:List (Nat × Operand),sh E ((uV l).run r) (l.map fun (i,x)=>(i,a.eval x))
 | []=>rfl
 | (i,x)::l=>by simp only [uV,List.map,sh];exact ⟨_,_,rfl,dB k x,FK k l⟩
theorem FI {E:Env} {aw:Nat} {r:bI} {a:Act} (k:RegRel0 E aw r a) (x:Option Operand):h6 E ((rL x).run r) (x.map a.eval):=by
 cases x with
 | none=>rfl
 | some x=>simp only [rL,h6,Option.map];exact ⟨_,rfl,dB k x⟩
theorem ajJ {v:V} {f:aO->Nat->a_} {r:V} {h:ae} (he:v.iV .fail f=.val r h):∃b off,v=.ptr b off/\f b off=.val r h:=by
 cases v<;>simp only [V.iV] at he<;>first
  | (cases he;done)
  | exact ⟨_,_,rfl,he⟩
theorem ajg {az:Fr} {E:Env} {h aa:ae} {w:World} (s:ba az E h w) {x v:V} {X:Value} {ty:TypeId} (ao:Rel E x X) (he:wX x h=.val v aa):c9 az P E w (Instr.next X true ty) v aa:=by
 unfold wX at he;obtain ⟨b,off,rfl,U⟩:=ajJ he;have ah:=s.at (p:=_) (by simp only [Rel] at ao;exact ao.choose_spec.1);cases aG:h.get b with
 | dead=>rw [aG] at U;cases U
 | view _ _=>rw [aG] at U;cases U
 | cells _ _ _ _=>rw [aG] at U;cases U
 | mp _ _=>rw [aG] at U;cases U
 | fz _=>rw [aG] at U;cases U
 | hC=>rw [aG] at U;cases U
 | hM _=>rw [aG] at U;cases U
 | gR _ _ _ _=>rw [aG] at U;cases U
 | iter st pos=>
   rw [aG] at U ah;simp only at U;obtain ⟨aY,ab⟩:=j9 U;rw [apT] at aY;subst aY;obtain ⟨p,ai,cC,lM,a7⟩:=ah;simp only [Rel] at ao;obtain ⟨q,aq,rfl⟩:=ao;rw [ai] at aq;cases aq;have eN:(getObj p.aS).run P w=.ok (.stringIter ⟨⟨st⟩⟩ pos) w:=by simp only [getObj,Sem.run,a7]
   have cn:(⟨⟨st⟩⟩:ByteArray).size=st.length:=rfl;cases aL:Nat.blt pos st.length with
   | true=>
     rw [aL] at ab;simp only [apt,a_.val.injEq] at ab;obtain ⟨rfl,rfl⟩:=ab;rw [apQ] at aL
     let b_:Obj:=.stringIter ⟨⟨st⟩⟩ (pos + (decodeL st pos).2)
     let w':World:={w with heap:=w.heap.setIfInBounds p.aS b_}
     have kN:=(apr.1 a7).1;have qf:(setObj p.aS b_).run P w=.ok () w':=by simp only [setObj,Sem.run,a7];rfl
     refine ⟨.tuple #[.bool true,goInt pos,.int .i32 (decodeL st pos).1],w',E,?_,Env.le.refl E,?_,s.set (p:=p) (by rw [aG];rfl) ai cC (by simp [w']) (fun j bC=>?_) rfl rfl rfl (fun _ _ _ e=>by cases e) ?_⟩
     . simp only [Instr.next,lM,Sem.run_bind,eN,Result.andThen_ok,cn,apB aL];have:(Utf8.decode (⟨⟨st⟩⟩:ByteArray) pos)=decodeL st pos:=rfl;simp only [this];rw [qf];rfl
     . simp only [Rel,bg];exact ⟨_,rfl,_,_,rfl,rfl,_,_,rfl,rfl,_,_,rfl,rfl,rfl⟩
     . simp only [w',apJ];rw [apu (fun e=>bC e.symm)]
     . exact ⟨p,ai,cC,lM,by simp [w',kN,b_]⟩
   | false=>
     rw [aL] at ab;simp only [apA,a_.val.injEq] at ab;obtain ⟨rfl,rfl⟩:=ab;have p8:¬pos<st.length:=by rw [<-apQ,aL];simp
     refine c9.plain (Z:=.tuple #[.bool false]) s ?_ ?_
     . simp only [Instr.next,lM,Sem.run_bind,eN,Result.andThen_ok,cn,apu p8,Sem.run_pure]
     . simp only [Rel,bg];exact ⟨_,rfl,_,_,rfl,rfl,rfl⟩
theorem akZ {az:Fr} {E:Env} {h aa:ae} {w:World} (s:ba az E h w) {t:TypeId} {x v:V} {X:Value} (ao:Rel E x X) (he:(F2 P t).run x h=.val v aa):c9 az P E w (Instr.range t X) v aa:=by
 unfold F2 at he;cases aE:bc P t with
 | none=>rw [aE] at he;cases he
 | some aP=>
   rw [aE] at he;simp only at he;have hu:=fA aE;cases bX:aP.bj with
   | string=>
     rw [bX] at he hu;simp only at he;cases x<;>simp only at he<;>try (cases he;done)
     rename_i st;simp only [a_.val.injEq] at he;obtain ⟨rfl,rfl⟩:=he;have:=ao.tr;subst this;have dC:=s.fresh h.next (aps _)
     have dt:E.put (aC h.next) ⟨w.heap.size,0,0⟩ (aC h.next)=some ⟨w.heap.size,0,0⟩:=by unfold Env.put;rw [apB rfl]
     refine ⟨.pointer (some ⟨w.heap.size,0,none⟩),{w with heap:=w.heap.push (.stringIter ⟨⟨st⟩⟩ 0)},_,?_,Env.mC (p:=⟨w.heap.size,0,0⟩) dC,?_,s.alloc 0 ?_⟩
     . simp only [Instr.range,Sem.run_bind,hu,Result.andThen_ok,Sem.run_pure,run_newObj]
     . simp only [Rel];exact ⟨_,dt,by simp⟩
     . exact ⟨_,dt,s.frame.size,rfl,by simp⟩
   | map da kC=>
     rw [bX] at he hu;exact ak0 s (hu w) ao he
   | _=>rw [bX] at he;cases he
theorem XO {az:Fr} {E:Env} {h aa:ae} {w:World} (s:ba az E h w) {t u:TypeId} {x y v:V} {X Y:Value} {ty:TypeId}
 (he:(Dn P t u).run x y h=.val v aa) (ao:Rel E x X) (a8:Rel E y Y):c9 az P E w (Builtin.append_ #[t,u] ty #[X,Y]) v aa:=by
 unfold Dn at he;cases aE:bc P t with
 | none=>rw [aE] at he;cases he
 | some aP=>
   cases hu:bc P u with
   | none=>rw [aE,hu] at he;cases he
   | some tt=>
     rw [aE,hu] at he;simp only at he
     have main:(∀k,tt.bj≠.int k)->(match aP.bj with
      | .slice e=>match bc P e with
        | none=>(⟨fun _ _ _=>.fail⟩:zJ)
        | some bf=>match bf.zero with
          | none=>⟨fun _ _ _=>.fail⟩
          | some z=>bif Nat.ble 1 bf.size&&Nat.ble bf.bytes 4096&&Nat.beq z.cells.length bf.size then ⟨jM bf.size⟩ else ⟨fun _ _ _=>.fail⟩
      | _=>⟨fun _ _ _=>.fail⟩).run x y h=.val v aa->c9 az P E w (Builtin.append_ #[t,u] ty #[X,Y]) v aa:=by
      intro ru he;cases bX:aP.bj with
      | slice e=>
        rw [bX] at he;simp only at he;cases cp:bc P e with
        | none=>rw [cp] at he;cases he
        | some bf=>
          rw [cp] at he;simp only at he;cases bm:bf.zero with
          | none=>rw [bm] at he;cases he
          | some z=>
            rw [bm] at he;simp only at he;cases au:(Nat.ble 1 bf.size&&Nat.ble bf.bytes 4096&&Nat.beq z.cells.length bf.size) with
            | false=>rw [au] at he;cases he
            | true=>
              rw [au] at he;simp only [apt] at he;simp only [apn,apF,apT] at au;obtain ⟨lD,wL,_,o8⟩:=tA (P:=P) (E:=E) cp bm w;refine XP s ⟨fun w=>?_,⟨tt.bj,fun w=>fA hu w,ru⟩,fun w=>j1 cp w,fun w=>Gc cp w,⟨lD,wL,by rw [o8];exact au.2⟩,au.1.1,au.1.2⟩ he ao a8;have:=fA aE w;rw [bX] at this;exact this
      | _=>rw [bX] at he;cases he
     cases yF:tt.bj with
     | int k=>
       rw [yF] at he;simp only at he;cases bX:aP.bj with
       | slice e=>
         rw [bX] at he;simp only at he;cases cp:bc P e with
         | none=>rw [cp] at he;cases he
         | some bf=>
           rw [cp] at he;simp only at he;cases bm:bf.zero with
           | none=>rw [bm] at he;cases he
           | some z=>
             rw [bm] at he;simp only at he;cases au:(Nat.ble 1 bf.size&&Nat.ble bf.bytes 4096&&Nat.beq z.cells.length bf.size) with
             | false=>rw [au] at he;cases he
             | true=>
               rw [au] at he;simp only [apt] at he;simp only [apn,apF,apT] at au;obtain ⟨lD,wL,Kd,o8⟩:=tA (P:=P) (E:=E) cp bm w;have yG:∀w,(underlying t).run P w=.ok (.slice e) w:=fun w=>by have:=fA aE w;rw [bX] at this;exact this
               have J9:∀w,(underlying u).run P w=.ok (.int k) w:=fun w=>by have:=fA hu w;rw [yF] at this;exact this
               have H:Hr P t u e bf.size bf.bytes k lD:=⟨yG,J9,fun w=>j1 cp w,fun w=>Gc cp w,wL,by rw [o8];exact au.2,au.1.1,au.1.2⟩;unfold Dp at he
               split at he
               case h_2=>cases he
               rename_i cY m
               split at he
               case h_2=>cases he
               rename_i n;obtain ⟨oZ,bA⟩:=j9 he;simp only [apn,apF] at oZ;have aA:=ua oZ.1;subst aA;simp only [Rel] at a8;subst a8;have JZ:=zj Kd n;have hlen:(iH z.cells n).length=n * bf.size:=by rw [<-JZ.length];simp [Builtin.zeroCells,o8,au.2]
               exact XQ s au.1.1 JZ hlen (by have:=oZ.2;unfold top;omega) (fun w' A c1 fB a b c=>alC H oZ.2 a b c) (fun A c1 fB bG a b c d f=>alD H oZ.2 A c1 fB bG a b c d f) bA ao
       | _=>rw [bX] at he;cases he
     | _=>rw [yF] at he;exact main (by rw [yF];simp) he
theorem aaE {az:Fr} {E:Env} {h aa:ae} {w:World} (s:ba az E h w) {t:TypeId} {rest:List TypeId} {x y v:V} {X Y:Value} {ty:TypeId}
 (he:(DI P t).run x y h=.val v aa) (ao:Rel E x X) (a8:Rel E y Y):c9 az P E w (Builtin.copy_ (t::rest).toArray ty #[X,Y]) v aa:=by
 unfold DI at he;cases aE:bc P t with
 | none=>rw [aE] at he;cases he
 | some aP=>
   rw [aE] at he;simp only at he;cases bX:aP.bj with
   | slice e=>
     rw [bX] at he;simp only at he;cases cp:bc P e with
     | none=>rw [cp] at he;cases he
     | some bf=>
       rw [cp] at he;simp only at he;exact aaF s (fun w=>by have:=fA aE w;rw [bX] at this;exact this) (fun w=>j1 cp w) he ao a8
   | _=>rw [bX] at he;cases he
theorem aag {az:Fr} {E:Env} {h aa:ae} {w:World} (s:ba az E h w) {t:TypeId} {x v:V} {X:Value} {ty:TypeId} {z:List V} (au:AE P t=some z)
 (he:DH z x h=.val v aa) (ao:Rel E x X):c9 az P E w (Builtin.clear_ #[t] ty #[X]) v aa:=by
 unfold AE at au;cases aE:bc P t with
 | none=>rw [aE] at au;cases au
 | some aP=>
   rw [aE] at au;simp only at au;cases bX:aP.bj with
   | slice e=>
     rw [bX] at au;simp only at au;cases cp:bc P e with
     | none=>rw [cp] at au;cases au
     | some bf=>
       rw [cp] at au;simp only at au;cases bm:bf.zero with
       | none=>rw [bm] at au;cases au
       | some z0=>
         rw [bm] at au;simp only [apq] at au;subst au;have hu:∀w,(underlying t).run P w=.ok (.slice e) w:=fun w=>by have:=fA aE w;rw [bX] at this;exact this
         obtain ⟨z,mx,Kd,Sj⟩:=tA (P:=P) (E:=E) cp bm w;have nothing:∀a c,X=.slice a 0 c->v=.tuple []->aa=h->c9 az P E w (Builtin.clear_ #[t] ty #[X]) v aa:=by
          intro a c dn bA a7;subst dn bA a7;refine ⟨.tuple #[],w,E,?_,Env.le.refl E,?_,s⟩
          . cases a<;>simp [Builtin.clear_,Sem.run_bind,hu,Result.andThen_ok,Sem.run_pure]
          . simp only [Rel];exact ⟨_,rfl,rfl⟩
         have VB:∀(b:aO) (off n c:Nat) (p:js),E b=some p->X=.slice (some ⟨p.aS,p.base+off,none⟩) n c->(bif Nat.beq n 0 then (a_.val (.tuple []) h) else (match lay h b off (iH z0.cells n) with
          | some aa=>a_.val (.tuple []) aa
          | none=>.fail))=.val v aa->c9 az P E w (Builtin.clear_ #[t] ty #[X]) v aa:=by
          intro b off n c p ai dn he;cases n with
          | zero=>
            simp only [arh,apt,a_.val.injEq] at he;exact nothing _ _ dn he.1.symm he.2.symm
          | succ n=>
            simp only [show Nat.beq (n+1) 0=false from rfl,apA] at he;cases ar:lay h b off (iH z0.cells (n+1)) with
            | none=>rw [ar] at he;cases he
            | some U=>
              rw [ar] at he;simp only [a_.val.injEq] at he;obtain ⟨rfl,rfl⟩:=he;obtain ⟨w',g1,g2⟩:=yP (P:=P) s (zj Kd (n+1)) ar ai;subst dn;refine ⟨.tuple #[],w',E,?_,Env.le.refl E,?_,g2⟩
              . simp only [Builtin.clear_,Sem.run_bind,List.getElem?_toArray,apH,hu,mx,Result.andThen_ok];have:(storeCells ⟨p.aS,p.base+off,none⟩ (Builtin.zeroCells z.cells (n+1)).toList).run P w=.ok () w':=g1;simp [this,Sem.run_pure,Result.andThen_ok]
              . simp only [Rel];exact ⟨_,rfl,rfl⟩
         unfold DH at he;cases x<;>simp only at he<;>try (cases he;done)
         . simp only [Rel] at ao;obtain ⟨p,g1,g2,g3⟩:=ao;exact VB _ _ _ _ p g1 g3 he
         . simp only [Rel] at ao;obtain ⟨p,g1,g2,g3⟩:=ao;exact VB _ _ _ _ p g1 g3 he
         . simp only [Rel] at ao;obtain ⟨a,c,rfl⟩:=ao;simp only [a_.val.injEq] at he;exact nothing _ _ rfl he.1.symm he.2.symm
         . simp only [Rel] at ao;simp only [a_.val.injEq] at he;exact nothing _ _ ao he.1.symm he.2.symm
   | _=>rw [bX] at au;cases au
theorem ZX {E:Env} {t:TypeId} {aP:nP} {x v:V} {X:Value} {ty:TypeId} (aE:bc P t=some aP) (aW:BH aP.bj=true) (he:tX x=some v) (ao:Rel E x X) (w:World):
 ∃Z,(Builtin.cap_ #[t] ty #[X]).run P w=.ok Z w/\Rel E v Z:=by
 cases bX:aP.bj with
 | slice e=>
   have hu:∀w,(underlying t).run P w=.ok (.slice e) w:=fun w=>by have:=fA aE w;rw [bX] at this;exact this
   cases x<;>simp only [tX] at he<;>try (cases he;done)
   . simp only [Rel] at ao;obtain ⟨p,_,_,rfl⟩:=ao;cases he;refine ⟨_,?_,rfl⟩;simp [Builtin.cap_,Sem.run_bind,hu,Result.andThen_ok,Sem.run_pure];rfl
   . simp only [Rel] at ao;subst ao;cases he;refine ⟨_,?_,rfl⟩;simp [Builtin.cap_,Sem.run_bind,hu,Result.andThen_ok,Sem.run_pure];rfl
 | _=>rw [bX] at aW;cases aW
theorem Cz {α:Type} (a:Array α):a.toList.toArray=a:=by simp
theorem Yx {az:Fr} {E:Env} {h aa:ae} {w:World} (s:ba az E h w) {b:Builtin} {bx:Array TypeId} {args:List V} {xs:List Value} {v:V} {ty:TypeId} {cs:Array Bool} (ar:bg E args xs)
 (he:(q2 P b bx.toList).run args h=.val v aa):∃m:Sem Value,Go.builtin b bx ty cs xs.toArray=(do pure (.value (<-m)))/\c9 az P E w m v aa:=by
 have one:∀{x:V},bg E [x] xs->∃X,xs=[X]/\Rel E x X:=by intro x h;simp only [bg] at h;obtain ⟨y,cu,rfl,a8,rfl⟩:=h;exact ⟨y,rfl,a8⟩
 have two:∀{x y:V},bg E [x,y] xs->∃X Y,xs=[X,Y]/\Rel E x X/\Rel E y Y:=by intro x y h;simp only [bg] at h;obtain ⟨X,_,rfl,dn,Y,_,rfl,fw,rfl⟩:=h;exact ⟨X,Y,rfl,dn,fw⟩
 cases b<;>simp only [q2] at he<;>try (simp [fY.none] at he;done)
 . -- append
   cases ff:bx.toList with
   | nil=>rw [ff] at he;simp [fY.none] at he
   | cons t ts=>
     rw [ff] at he;cases ts with
     | nil=>simp [fY.none] at he
     | cons u amR=>
       cases amR with
       | cons _ _=>simp [fY.none] at he
       | nil=>
         simp only at he
         match args,he,ar with
         | [x,y],he,ar=>
           obtain ⟨X,Y,rfl,dn,fw⟩:=two ar;have e:bx=#[t,u]:=by rw [<-Cz bx,ff]
           exact ⟨_,rfl,by rw [e];exact XO s he dn fw⟩
         | [],he,_=>cases he
         | [_],he,_=>cases he
         | _::_::_::_,he,_=>cases he
 . -- cap
   cases ff:bx.toList with
   | nil=>rw [ff] at he;simp [fY.none] at he
   | cons t ts=>
     rw [ff] at he;cases ts with
     | cons _ _=>simp [fY.none] at he
     | nil=>
       simp only at he;cases aE:bc P t with
       | none=>rw [aE] at he;simp [fY.none] at he
       | some aP=>
         rw [aE] at he;simp only at he;cases aW:BH aP.bj with
         | false=>rw [aW] at he;simp [fY.none] at he
         | true=>
           rw [aW] at he;simp only [apt] at he
           match args,he,ar with
           | [x],he,ar=>
             obtain ⟨X,rfl,dn⟩:=one ar;have e:bx=#[t]:=by rw [<-Cz bx,ff]
             obtain ⟨et,rfl⟩:=a_.iG he;obtain ⟨Z,e9,cR⟩:=ZX (P:=P) (ty:=ty) aE aW et dn w;exact ⟨_,rfl,by rw [e];exact c9.plain s e9 cR⟩
           | [],he,_=>cases he
           | _::_::_,he,_=>cases he
 . -- clear
   cases ff:bx.toList with
   | nil=>rw [ff] at he;simp [fY.none] at he
   | cons t ts=>
     rw [ff] at he;cases ts with
     | cons _ _=>simp [fY.none] at he
     | nil=>
       simp only at he;cases au:AE P t with
       | none=>rw [au] at he;simp [fY.none] at he
       | some z=>
         rw [au] at he;simp only at he
         match args,he,ar with
         | [x],he,ar=>
           obtain ⟨X,rfl,dn⟩:=one ar;have e:bx=#[t]:=by rw [<-Cz bx,ff]
           exact ⟨_,rfl,by rw [e];exact aag s au he dn⟩
         | [],he,_=>cases he
         | _::_::_,he,_=>cases he
 . -- copy
   cases ff:bx.toList with
   | nil=>rw [ff] at he;simp [fY.none] at he
   | cons t ts=>
     rw [ff] at he;simp only at he
     match args,he,ar with
     | [x,y],he,ar=>
       obtain ⟨X,Y,rfl,dn,fw⟩:=two ar;have e:bx=(t::ts).toArray:=by rw [<-Cz bx,ff]
       exact ⟨_,rfl,by rw [e];exact aaE s he dn fw⟩
     | [],he,_=>cases he
     | [_],he,_=>cases he
     | _::_::_::_,he,_=>cases he
 . -- len
   cases ff:bx.toList with
   | nil=>rw [ff] at he;simp [fY.none] at he
   | cons t ts=>
     rw [ff] at he;cases ts with
     | cons _ _=>simp [fY.none] at he
     | nil=>
       simp only at he;cases aE:bc P t with
       | none=>rw [aE] at he;simp [fY.none] at he
       | some aP=>
         rw [aE] at he;simp only at he
         match args,he,ar with
         | [x],he,ar=>
           obtain ⟨X,rfl,dn⟩:=one ar;have e:bx=[t].toArray:=by rw [<-Cz bx,ff]
           cases hm:uF aP.bj with
           | true=>
             rw [hm] at he;exact ⟨_,rfl,by rw [e];exact aim s aE hm dn ty [] he⟩
           | false=>
             rw [hm] at he;simp only [apA] at he;obtain ⟨et,rfl⟩:=a_.iG he;obtain ⟨Z,e9,cR⟩:=ain (P:=P) aE et dn ty [] w;exact ⟨_,rfl,by rw [e];exact c9.plain s e9 cR⟩
         | [],he,_=>cases hm:uF aP.bj<;>rw [hm] at he<;>cases he
         | _::_::_,he,_=>cases hm:uF aP.bj<;>rw [hm] at he<;>cases he
 . -- max
   obtain ⟨et,rfl⟩:=a_.iG he;clear he;cases args with
   | nil=>cases et
   | cons x args=>
     simp only [kZ] at et;obtain ⟨k,a,rfl,U⟩:=jX et;simp only [bg] at ar;obtain ⟨X,cu,rfl,dn,ar⟩:=ar;have:=dn.iU;subst this;obtain ⟨Z,e9,cR⟩:=Lg (P:=P) false args cu k a v ar U w;exact ⟨_,rfl,c9.plain (Z:=Z) s (by simpa [Builtin.max_] using e9) cR⟩
 . -- min
   obtain ⟨et,rfl⟩:=a_.iG he;clear he;cases args with
   | nil=>cases et
   | cons x args=>
     simp only [kZ] at et;obtain ⟨k,a,rfl,U⟩:=jX et;simp only [bg] at ar;obtain ⟨X,cu,rfl,dn,ar⟩:=ar;have:=dn.iU;subst this;obtain ⟨Z,e9,cR⟩:=Lg (P:=P) true args cu k a v ar U w;exact ⟨_,rfl,c9.plain (Z:=Z) s (by simpa [Builtin.min_] using e9) cR⟩
end
section
variable {P:Program}
def ep (P:Program):Prop:=∀(f:FuncId) (fn:Func),P.funcs[f]? =some fn->(fn.name == "runtime.NumGoroutine")=false
theorem u4 (bK:ep P) {f:FuncId} {fn:Func} (aB:P.funcs[f]? =some fn) (ah:fn.body.isSome=true) (args:Array Value) (w:World):(callFunc f args).run P w=.ok (.enter f args) w:=by
 have hh:fn.body.isNone=false:=by cases h:fn.body with | none=>rw [h] at ah;cases ah | some c=>rfl
 simp only [callFunc,Sem.run_bind,run_program,Result.andThen_ok,aB];rw [apu (by rw [bK f fn aB];simp)];simp [hh]
theorem KG {α β:Type} (f:α->β) (a:Array α):a.map f=(a.toList.map f).toArray:=by apply arc;simp
theorem Ld (ρ:Operand->Value) (bn:Array (Nat × Operand)):(bn.map fun (i,x)=>(i,ρ x))=(bn.toList.map fun (i,x)=>(i,ρ x)).toArray:=by apply arc;simp
theorem X5 {E:Env} {t vb:TypeId} {aP:nP} {ok:Bool} {x v:V} {X:Value} (aE:bc P t=some aP) (ah:Nat.beq (e_ aP.bj) 5=false) (ao:Rel E x X)
 (he:Ar t aP.zero ok x=some v) (w:World):∃Z,(Instr.typeAssert X vb t ok).run P w=.ok Z w/\Rel E v Z:=by
 have hu:=fA aE w;have ru:∀ms,aP.bj≠.interface ms:=fun ms e=>by rw [e] at ah;simp [e_] at ah
 have zero:∀z,aP.zero=some z->∃x,(zeroValue t).run P w=.ok x w/\Rel E z x:=fun z bm=>by obtain ⟨x,U,ab,_⟩:=zq (P:=P) aE bm E w;exact ⟨x,U,ab⟩
 unfold Ar at he;cases x<;>simp only at he<;>try (cases he;done)
 case iface u y=>
  simp only [Rel] at ao;obtain ⟨Y,rfl,fw⟩:=ao;rw [hB] at he;by_cases yG:u=t
  . rw [apB yG] at he;simp only [apq] at he;subst yG;cases ok with
    | true=>
      simp only [apt] at he;subst he;refine ⟨.tuple #[Y,.bool true],?_,by simp only [Rel,bg];exact ⟨_,rfl,_,_,rfl,fw,_,_,rfl,rfl,rfl⟩⟩;simp only [Instr.typeAssert,Sem.run_bind,hu,Result.andThen_ok];cases bX:aP.bj<;>first
       | exact absurd bX (ru _)
       | (simp only [ap0];rfl)
    | false=>
      simp only [apA] at he;subst he;refine ⟨Y,?_,fw⟩;simp only [Instr.typeAssert,Sem.run_bind,hu,Result.andThen_ok];cases bX:aP.bj<;>first
       | exact absurd bX (ru _)
       | (simp only [ap0];rfl)
  . rw [apu yG] at he;cases ok with
    | false=>cases he
    | true=>
      simp only [apt] at he;cases bm:aP.zero with
      | none=>rw [bm] at he;cases he
      | some z=>
        rw [bm] at he;simp only [apq] at he;subst he;obtain ⟨a6,bU,z2⟩:=zero z bm;refine ⟨.tuple #[a6,.bool false],?_,by simp only [Rel,bg];exact ⟨_,rfl,_,_,rfl,z2,_,_,rfl,rfl,rfl⟩⟩;simp only [Instr.typeAssert,Sem.run_bind,hu,Result.andThen_ok];cases bX:aP.bj<;>first
         | exact absurd bX (ru _)
         | (simp only [apu yG,ap0,Sem.run_bind,bU,Result.andThen_ok];rfl)
 case nilIface=>
  simp only [Rel] at ao;subst ao;cases ok with
  | false=>cases he
  | true=>
    simp only [apt] at he;cases bm:aP.zero with
    | none=>rw [bm] at he;cases he
    | some z=>
      rw [bm] at he;simp only [apq] at he;subst he;obtain ⟨a6,bU,z2⟩:=zero z bm;refine ⟨.tuple #[a6,.bool false],?_,by simp only [Rel,bg];exact ⟨_,rfl,_,_,rfl,z2,_,_,rfl,rfl,rfl⟩⟩;simp only [Instr.typeAssert,Sem.run_bind,hu,Result.andThen_ok];cases bX:aP.bj<;>first
       | exact absurd bX (ru _)
       | (simp only [ap0,Sem.run_bind,bU,Result.andThen_ok];rfl)
def gV (P:Program) (call:dR):Prop:=∀f args h v aa,call f args h=.val v aa->True
theorem PL {rd:Option Nat} {az:Fr} {E:Env} {h aa:ae} {w:World} {call:dR} (bK:ep P) (cf:gJ P call) (dH:gV P call) {o:Oper} {aw:Nat} {r:bI} {a:Act} {v:V}
 (he:(fp P o).run call r h=.val v aa) (k:RegRel0 E aw r a) (s:ba az E h w) {K:Act->World->Prop} {Q:Exit->Act->World->Prop}
 (dL:∀ay x w',E.le ay->Rel ay v x->ba az ay aa w'->K (a.put o.dst x) w'):o.wpIn (cc rd) 0 P a w K Q:=by
 obtain ⟨dst,op,type,pos,after,guard⟩:=o;cases op<;>simp only [fp] at he<;>try (simp [dr.none] at he;done)
 case move x=>
  simp only [a_.val.injEq] at he;obtain ⟨rfl,rfl⟩:=he;exact gd (m:=pure (a.eval x)) rfl (c9.plain s rfl (dB k x)) dL
 case assign x=>
  simp only [a_.val.injEq] at he;obtain ⟨rfl,rfl⟩:=he;exact gd (m:=pure (a.eval x)) rfl (c9.plain s rfl (dB k x)) dL
 case pick c x y=>
  have au:=dB k c;generalize (bV c).run r=CC at he au;cases CC<;>simp only at he<;>try (cases he;done)
  rename_i t;simp only [a_.val.injEq] at he;obtain ⟨rfl,rfl⟩:=he;simp only [Rel] at au;refine gd (m:=do pure (if <-asBool (a.eval c) then a.eval x else a.eval y)) (by simp only [execOp,bind_assoc,pure_bind]) (c9.plain (Z:=if t then a.eval x else a.eval y) s ?_ ?_) dL
  . rw [au];rfl
  . cases t
    . exact dB k y
    . exact dB k x
 case alloc t=>
  cases aE:bc P t with
  | none=>rw [aE] at he;simp [dr.none] at he
  | some aP=>
    rw [aE] at he;simp only at he;cases bm:aP.zero with
    | none=>rw [bm] at he;simp [dr.none] at he
    | some z=>
      rw [bm] at he;simp only at he;cases aV:gk h z.cells with
      | none=>rw [aV] at he;cases he
      | some U=>
        rw [aV] at he;simp only [gT,a_.val.injEq] at he;obtain ⟨rfl,rfl⟩:=he;obtain ⟨x,ao,o7,_⟩:=tA (P:=P) (E:=E) aE bm w;obtain ⟨ay,g1,g2,g3,g4⟩:=Fq (P:=P) s o7 aV t;have IG:(newRow t x.cells).run P w=.ok ⟨w.heap.size,0,none⟩ {w with heap:=w.heap.push (.cells x.cells t)}:=by simpa using g3
        have IH:ba az ay U {w with heap:=w.heap.push (.cells x.cells t)}:=by simpa using g4
        exact gd (m:=Instr.alloc t true (.tuple #[])) rfl ⟨.pointer (some ⟨w.heap.size,0,none⟩),_,ay,by simp only [Instr.alloc,Sem.run_bind,ao,Result.andThen_ok,newVar,IG,Sem.run_pure],g1,by simp only [Rel];exact ⟨_,g2,by simp⟩,IH⟩ dL
 case box t x=>
  obtain ⟨aG,he⟩:=j9 he;cases aV:gk h ((bV x).run r).cells with
  | none=>rw [aV] at he;cases he
  | some U=>
    rw [aV] at he;simp only [gT,a_.val.injEq] at he;obtain ⟨rfl,rfl⟩:=he;have ar:=(dB k x).cells (fun e=>by rw [e] at aG;cases aG);obtain ⟨ay,g1,g2,g3,g4⟩:=Fq (P:=P) s ar aV t;have IG:(newRow t (a.eval x).cells).run P w=.ok ⟨w.heap.size,0,none⟩ {w with heap:=w.heap.push (.cells (a.eval x).cells t)}:=by simpa using g3
    have IH:ba az ay U {w with heap:=w.heap.push (.cells (a.eval x).cells t)}:=by simpa using g4
    exact gd (m:=Instr.box t (a.eval x)) rfl ⟨.pointer (some ⟨w.heap.size,0,none⟩),_,ay,by simp only [Instr.box,Sem.run_bind,newVar,IG,Result.andThen_ok,Sem.run_pure],g1,by simp only [Rel];exact ⟨_,g2,by simp⟩,IH⟩ dL
 case build t bn=>
  obtain ⟨et,rfl⟩:=a_.iG he;clear he;obtain ⟨Z,e9,cR⟩:=Yt (P:=P) (FK k bn.toList) et w;refine gd (m:=Instr.build t (bn.map fun (i,x)=>(i,a.eval x))) rfl (c9.plain (Z:=Z) s ?_ cR) dL;rw [Ld];exact e9
 case buildSlice t n bn=>
  refine gd (m:=Instr.buildSlice t n (bn.map fun (i,x)=>(i,a.eval x))) rfl ?_ dL;rw [Ld];exact Yv s (FK k bn.toList) he
 case load t x=>
  obtain ⟨et,rfl⟩:=a_.iG he;clear he;obtain ⟨Y,fw,cR,_⟩:=Tj (P:=P) s (dB k x) et;exact gd (m:=Instr.loadAt t (a.eval x)) rfl (c9.plain s fw cR) dL
 case store t x y=>
  cases cD:(tm P t).run h ((bV x).run r) ((bV y).run r) with
  | none=>rw [cD] at he;cases he
  | some U=>
    rw [cD] at he;simp only [gT,a_.val.injEq] at he;obtain ⟨rfl,rfl⟩:=he;obtain ⟨w',cS,jA⟩:=amg (P:=P) s (dB k x) (dB k y) cD;refine ⟨fun _ _=>trivial,?_⟩;rw [qC (by intro c h;cases h)];have:execOp a.eval ⟨dst,.store t x y,type,pos,after,guard⟩=(do Instr.storeAt t (a.eval x) (a.eval y);pure .skip):=rfl;rw [this,Sem.run_bind,cS];exact dL E undef w' (Env.le.refl E) (by simp [Rel]) jA
 case nilCheck x=>
  obtain ⟨et,rfl⟩:=a_.iG he;clear he;have ao:=dB k x;generalize (bV x).run r=tv at et ao
  have eN:∀X,Rel E tv X->(match X with
   | .pointer none | .nilIface | .nilFunc=>(runtimePanic .nilDeref:Sem Next)
   | .func (.method name) first captured=>
     match (first[0]? :Option Value) with
     | some .nilIface=>runtimePanic .nilDeref
     | some (.iface t w)=>do
       if (<-nilAhead ((<-program).types.size+Made.depth) t w name) != some false then
        unsupported (.noEntry "op/nilCheck.the method's receiver behind this interface value is a nil pointer, or cannot be seen to be none, and the arguments act or may panic (ledger 612)")
       pure (.value (.func (.method name) first captured))
     | _=>pure (.value (.func (.method name) first captured))
   | x=>pure (.value x))=pure (.value X)/\v=tv:=by
   intro X dn;cases tv<;>simp only [uR] at et<;>try (cases et;done)
   all_goals simp only [apq] at et
   all_goals simp only [Rel] at dn
   . obtain ⟨p,_,rfl⟩:=dn;exact ⟨rfl,et.symm⟩
   . rcases dn with ⟨_,_,rfl,_⟩ | ⟨_,_,_,_,_,rfl⟩<;>exact ⟨rfl,et.symm⟩
   . obtain ⟨p,rfl,_⟩:=dn;exact ⟨rfl,et.symm⟩
   . obtain ⟨_,p,rfl,_⟩:=dn;exact ⟨rfl,et.symm⟩
  obtain ⟨U,rfl⟩:=eN _ ao;exact gd (m:=pure (a.eval x)) (by simp only [execOp];rw [pure_bind];exact U) (c9.plain s rfl ao) dL
 case binOp op t x y u=>
  obtain ⟨et,rfl⟩:=a_.iG he;clear he;obtain ⟨Z,e9,cR⟩:=Yn (P:=P) (ji:=x) (jj:=y) et (dB k x) (dB k y) w;exact gd rfl (c9.plain s e9 cR) dL
 case unOp op t x=>
  obtain ⟨et,rfl⟩:=a_.iG he;clear he;obtain ⟨Z,e9,cR⟩:=am3 (P:=P) et (dB k x) w;exact gd (m:=Op.unary op (a.eval x)) rfl (c9.plain s e9 cR) dL
 case convert t u x=>exact gd (m:=convert t u (a.eval x)) rfl (aaB s he (dB k x)) dL
 case makeInterface t x=>
  cases aE:bc P t with
  | none=>rw [aE] at he;simp [dr.none] at he
  | some aP=>
    rw [aE] at he;simp only at he;cases ah:Nat.beq (e_ aP.bj) 5 with
    | true=>rw [ah] at he;simp [dr.none] at he
    | false=>
      rw [ah] at he;simp only [apA,a_.val.injEq] at he;obtain ⟨rfl,rfl⟩:=he;refine gd (m:=Instr.makeInterface t (a.eval x)) rfl (c9.plain (Z:=.iface t (a.eval x)) s ?_ ?_) dL
      . have hu:=fA aE w;simp only [Instr.makeInterface,Sem.run_bind,hu,Result.andThen_ok];cases bX:aP.bj<;>first
         | rfl
         | (rw [bX] at ah;simp [e_] at ah)
      . simp only [Rel];exact ⟨_,rfl,dB k x⟩
 case makeFunc fn first eT=>
  cases fn<;>simp only at he<;>try (simp [dr.none] at he;done)
  rename_i f;cases aB:(first.isEmpty&&!Nat.beq f dv) with
  | false=>
    rw [aB] at he;simp only [apA] at he;cases jy:(eT.isEmpty&&!Nat.beq f dv) with
    | false=>rw [jy] at he;simp [dr.none] at he
    | true=>
      rw [jy] at he;simp only [apt,a_.val.injEq] at he;obtain ⟨rfl,rfl⟩:=he;simp only [apn,aqs] at jy;have Jl:f≠dv:=fun e=>by rw [e] at jy;exact absurd jy.2 (by decide)
      have Ji:eT=#[]:=by simpa using jy.1
      subst Ji;refine gd (m:=Instr.makeFunc (.func f) (first.map a.eval) #[]) (by simp [execOp]) (c9.plain s rfl ?_) dL;simp only [Rel];exact ⟨Jl,_,rfl,by rw [KG];simpa using rb k first.toList⟩
  | true=>
    rw [aB] at he;simp only [apt,a_.val.injEq] at he;obtain ⟨rfl,rfl⟩:=he;simp only [apn,aqs] at aB;have Jl:f≠dv:=fun e=>by rw [e] at aB;exact absurd aB.2 (by decide)
    have Ji:first=#[]:=by simpa using aB.1
    subst Ji;refine gd (m:=Instr.makeFunc (.func f) #[] (eT.map a.eval)) (by simp [execOp]) (c9.plain s rfl ?_) dL;simp only [Rel];exact .inl ⟨Jl,_,rfl,by rw [KG];simpa using rb k eT.toList⟩
 case makeSlice t l c=>exact gd (m:=Instr.makeSlice t (a.eval l) (a.eval c)) rfl (aiN s (dB k l) (dB k c) he) dL
 case slice t x br ax ev=>
  obtain ⟨et,rfl⟩:=a_.iG he;clear he;obtain ⟨Z,e9,cR⟩:=al7 (P:=P) et (dB k x) (FI k br) (FI k ax) (FI k ev) w;exact gd (m:=Instr.sliceAt t (a.eval x) (br.map a.eval) (ax.map a.eval) (ev.map a.eval)) rfl (c9.plain s e9 cR) dL
 case fieldAddr t x i=>
  obtain ⟨et,rfl⟩:=a_.iG he;clear he;obtain ⟨Z,e9,cR⟩:=abF (P:=P) et (dB k x) w;exact gd (m:=Instr.fieldAt t (a.eval x) i) rfl (c9.plain s e9 cR) dL
 case field t x i=>
  obtain ⟨et,rfl⟩:=a_.iG he;clear he;obtain ⟨Z,e9,cR⟩:=abG (P:=P) et (dB k x) w;exact gd (m:=Instr.field t (a.eval x) i) rfl (c9.plain s e9 cR) dL
 case indexAddr t x i=>
  obtain ⟨et,rfl⟩:=a_.iG he;clear he;obtain ⟨Z,e9,cR⟩:=afo (P:=P) et (dB k x) (dB k i) w;exact gd (m:=Instr.indexAt t (a.eval x) (a.eval i)) rfl (c9.plain s e9 cR) dL
 case index t x i=>
  obtain ⟨et,rfl⟩:=a_.iG he;clear he;obtain ⟨Z,e9,cR⟩:=afq (P:=P) et (dB k x) (dB k i) w;exact gd (m:=Instr.index t (a.eval x) (a.eval i)) rfl (c9.plain s e9 cR) dL
 case range t x=>exact gd (m:=Instr.range t (a.eval x)) rfl (akZ s (dB k x) he) dL
 case next it yN=>
  cases yN with
  | true=>exact gd (m:=Instr.next (a.eval it) true type) rfl (ajg s (dB k it) he) dL
  | false=>exact gd (m:=Instr.next (a.eval it) false type) rfl (aje s (dB k it) he) dL
 case entry it=>exact gd (m:=Instr.entry (a.eval it)) rfl (abj s (dB k it) he) dL
 case lookup t x y ok=>
  obtain ⟨et,rfl⟩:=a_.iG he;clear he;obtain ⟨Z,e9,cR⟩:=aiH (P:=P) s (dB k x) (dB k y) et;exact gd (m:=Instr.lookup t (a.eval x) (a.eval y) ok) rfl (c9.plain s e9 cR) dL
 case mapEntry t m y=>exact gd (m:=Instr.mapEntry t (a.eval m) (a.eval y)) rfl (aiQ s (dB k m) (dB k y) he) dL
 case entryStore t m st x=>
  cases cD:q8 h ((bV m).run r) ((bV st).run r) ((bV x).run r) with
  | none=>rw [cD] at he;cases he
  | some U=>
    rw [cD] at he;simp only [gT,a_.val.injEq] at he;obtain ⟨rfl,rfl⟩:=he;obtain ⟨w',cS,jA⟩:=abi (P:=P) (t:=t) s (dB k m) (dB k st) (dB k x) cD;refine ⟨fun _ _=>trivial,?_⟩;rw [qC (by intro c h;cases h)];have:execOp a.eval ⟨dst,.entryStore t m st x,type,pos,after,guard⟩=(do Instr.entryStore t (a.eval m) (a.eval st) (a.eval x);pure .skip):=rfl;rw [this,Sem.run_bind,cS];exact dL E undef w' (Env.le.refl E) (by simp [Rel]) jA
 case mapUpdate t m y x=>
  cases cD:(pv P t).run h ((bV m).run r) ((bV y).run r) ((bV x).run r) with
  | none=>rw [cD] at he;cases he
  | some U=>
    rw [cD] at he;simp only [gT,a_.val.injEq] at he;obtain ⟨rfl,rfl⟩:=he;obtain ⟨w',cS,jA⟩:=V5 (P:=P) s (dB k m) (dB k y) (dB k x) cD;refine ⟨fun _ _=>trivial,?_⟩;rw [qC (by intro c h;cases h)];have:execOp a.eval ⟨dst,.mapUpdate t m y x,type,pos,after,guard⟩=(do Instr.mapUpdate t (a.eval m) (a.eval y) (a.eval x);pure .skip):=rfl;rw [this,Sem.run_bind,cS];exact dL E undef w' (Env.le.refl E) (by simp [Rel]) jA
 case insert t m y x=>
  cases cD:(pv P t).run h ((bV m).run r) ((bV y).run r) ((bV x).run r) with
  | none=>rw [cD] at he;cases he
  | some U=>
    rw [cD] at he;simp only [gT,a_.val.injEq] at he;obtain ⟨rfl,rfl⟩:=he;obtain ⟨w',cS,jA⟩:=V5 (P:=P) s (dB k m) (dB k y) (dB k x) cD;refine ⟨fun _ _=>trivial,?_⟩;rw [qC (by intro c h;cases h)];have:execOp a.eval ⟨dst,.insert t m y x,type,pos,after,guard⟩=(do Instr.mapUpdate t (a.eval m) (a.eval y) (a.eval x);pure .skip):=rfl;rw [this,Sem.run_bind,cS];exact dL E undef w' (Env.le.refl E) (by simp [Rel]) jA
 case makeMap t x=>exact gd (m:=Instr.makeMap t (x.map a.eval)) rfl (aiM s (FI k x) he) dL
 case panic x=>
  exfalso;unfold Lb at he
  split at he<;>cases he
 case typeAssert x vb t ok=>
  cases aE:bc P t with
  | none=>rw [aE] at he;simp [dr.none] at he
  | some aP=>
    rw [aE] at he;simp only at he;cases ah:Nat.beq (e_ aP.bj) 5 with
    | true=>rw [ah] at he;simp [dr.none] at he
    | false=>
      rw [ah] at he;simp only [apA] at he;obtain ⟨et,rfl⟩:=a_.iG he;clear he;obtain ⟨Z,e9,cR⟩:=X5 aE ah (vb:=vb) (dB k x) et w;exact gd (m:=Instr.typeAssert (a.eval x) vb t ok) rfl (c9.plain s e9 cR) dL
 case extract x i=>
  have ao:=dB k x;generalize (bV x).run r=tv at he ao;cases tv<;>simp only at he<;>try (cases he;done)
  obtain ⟨et,rfl⟩:=a_.iG he;clear he;simp only [Rel] at ao;obtain ⟨arr,dn,ar⟩:=ao;obtain ⟨y,a8,cR⟩:=ar.get i v et;refine gd (m:=Instr.extract (a.eval x) i) rfl (c9.plain (Z:=y) s ?_ cR) dL;rw [dn];have:arr[i]? =some y:=by simpa using a8
  simp only [Instr.extract,this,Sem.run_pure]
 case call c=>
  obtain ⟨callee,args,types⟩:=c;cases callee with
  | invoke _ _=>simp [sw,dr.none] at he
  | builtin b=>
    simp only [sw] at he;obtain ⟨cs,iB⟩:∃cs,execOp a.eval ⟨dst,.call ⟨.builtin b,args,types⟩,type,pos,after,guard⟩=Go.builtin b types type cs (args.map a.eval):=by simp only [execOp,resolve,pure_bind,invoke];exact ⟨_,rfl⟩
    obtain ⟨m,hm,aG⟩:=Yx (P:=P) (ty:=type) (cs:=cs) s (rb k args.toList) he;refine gd (m:=m) ?_ aG dL;rw [iB,<-hm,KG]
  | value f=>
    simp only [sw] at he;have aB:=dB k f;generalize aeX:(bV f).run r=xg at he aB;cases xg<;>simp only [V.y9] at he<;>try (cases he;done)
    rotate_left
    . rename_i g cs;simp only [Rel] at aB;refine ⟨fun _ _=>trivial,?_⟩;rw [qC (by intro c h;cases h)];obtain ⟨aG,first,dn,ar⟩:=aB;have pW:=bg.append ar (rb k args.toList);have oZ:=cf.fn _ _ _ _ _ _ aG he E w _ pW s;have hex:execOp a.eval ⟨dst,.call ⟨.value f,args,types⟩,type,pos,after,guard⟩=callFunc g (first++args.map a.eval):=by
       simp only [execOp,resolve,dn,Deferred.ofValue,pure_bind,invoke];simp
      have e:first++args.map a.eval=(first.toList++args.toList.map a.eval).toArray:=by apply arc;simp
      rw [hex,e];rcases oZ with ⟨⟨fn,ig,ah⟩,au⟩ | ⟨ay,x,w',aD,aj,an,aJ⟩
      case inr=>
       rw [aD];exact dL ay x w' aj an aJ
      rw [u4 bK ig ah];refine ⟨fun h=>by simp at h,sz.2 (au.mono fun e w' aq=>?_)⟩;obtain ⟨ay,x,rfl,aj,an,aJ⟩:=aq;exact dL ay x w' aj an aJ
    rename_i g cs;simp only [Rel] at aB;refine ⟨fun _ _=>trivial,?_⟩;rw [qC (by intro c h;cases h)];rcases aB with ⟨aG,eT,dn,ar⟩ | ⟨aG,b,p,iB,ai,dn⟩
    . have pW:=(rb k args.toList).append ar;have oZ:=cf.fn _ _ _ _ _ _ aG he E w _ pW s;have hex:execOp a.eval ⟨dst,.call ⟨.value f,args,types⟩,type,pos,after,guard⟩=callFunc g (args.map a.eval++eT):=by
       simp only [execOp,resolve,dn,Deferred.ofValue,pure_bind,invoke];simp
      have e:args.map a.eval++eT=(args.toList.map a.eval++eT.toList).toArray:=by apply arc;simp
      rw [hex,e];rcases oZ with ⟨⟨fn,ig,ah⟩,au⟩ | ⟨ay,x,w',aD,aj,an,aJ⟩
      case inr=>
       rw [aD];exact dL ay x w' aj an aJ
      rw [u4 bK ig ah];refine ⟨fun h=>by simp at h,sz.2 (au.mono fun e w' aq=>?_)⟩;obtain ⟨ay,x,rfl,aj,an,aJ⟩:=aq;exact dL ay x w' aj an aJ
    . subst aG iB;obtain ⟨Iz,tmps,assign,body,aj,an⟩:=cf.Wk _ _ _ _ _ _ he E w _ p (rb k args.toList) s ai;have hex:execOp a.eval ⟨dst,.call ⟨.value f,args,types⟩,type,pos,after,guard⟩=Instr.yield p.aS (args.map a.eval):=by
       simp only [execOp,resolve,dn,Deferred.ofValue,pure_bind,invoke];simp
      have e:args.map a.eval=(args.toList.map a.eval).toArray:=by apply arc;simp
      rw [hex,e,aj];refine ⟨fun h=>by simp at h,RoundIn.mono an fun e w' aq=>?_⟩;obtain ⟨ay,x,rfl,a',cG,b3⟩:=aq;exact dL ay x w' a' cG b3
end
section
variable {P:Program}
theorem IL {E:Env} {aw:Nat} {r:bI} {a:Act} (k:RegRel0 E aw r a) {all:Array Oper} {j:Nat} {g:Oper} {d:Nat} (bC:all[j]? =some g) (aH:g.dst=some d) (ado:d<aw) (wk:d<=top):
 (∀b,T.get .bad (aC d) r=.bool b->yielded all a.tmps j=some b)/\(∀af,T.get .bad (aC d) r=.tuple af->yielded all a.tmps j=none):=by
 have aD:=k.ak d wk;have aL:d<a.tmps.size:=by rw [k.size];exact ado
 have he:a.tmps[d]? =some (a.tmps.getD d undef):=by simp [apO,aL]
 refine ⟨fun b ah=>?_,fun af ah=>?_⟩
 . rw [ah] at aD;simp only [Rel] at aD;simp only [yielded,bC,Option.bind,aH,he,aD]
 . rw [ah] at aD;simp only [Rel] at aD;obtain ⟨arr,aD,_⟩:=aD;simp only [yielded,bC,Option.bind,aH,he,aD]
theorem PI {rd:Option Nat} {az:Fr} {E:Env} {h aa:ae} {w:World} {call:dR} (bK:ep P) (cf:gJ P call) {o:Oper} {aw:Nat} {r:bI} {a:Act} {v:V} (hm:l0 o.op=true)
 (he:(fp P o).run call r h=.cI v aa) (k:RegRel0 E aw r a) (s:ba az E h w) {K:Act->World->Prop} {Q:Exit->Act->World->Prop}
 (cw:∀ay x w',E.le ay->Rel ay v x->ba az ay aa w'->Q (.panic (qu x)) a w'):o.wpIn (cc rd) 0 P a w K Q:=by
 obtain ⟨dst,op,type,pos,after,guard⟩:=o;cases op<;>simp only [l0] at hm<;>try (cases hm;done)
 all_goals simp only [fp] at he
 case panic x=>
  have ao:=dB k x;generalize (bV x).run r=tv at he ao;unfold Lb at he;cases tv<;>simp only at he<;>try (cases he;done)
  simp only [a_.cI.injEq] at he;obtain ⟨rfl,rfl⟩:=he;have Bx:=ao;simp only [Rel] at ao;obtain ⟨Y,dn,fw⟩:=ao;refine ⟨fun _ _=>trivial,?_⟩;rw [qC (by intro c h;cases h)];have hex:(execOp a.eval ⟨dst,.panic x,type,pos,after,guard⟩).run P w=.halt (.panic (a.eval x)) w:=by simp only [execOp,dn,Instr.panic,Sem.run_bind];rfl
  rw [hex];exact cw E _ w (Env.le.refl E) Bx s
 case call c=>
  obtain ⟨callee,args,types⟩:=c;cases callee<;>simp only at hm<;>try (cases hm;done)
  rename_i f;simp only [sw] at he;have aB:=dB k f;generalize aeX:(bV f).run r=xg at he aB;cases xg<;>simp only [V.y9] at he<;>try (cases he;done)
  rotate_left
  . rename_i g cs;simp only [Rel] at aB;refine ⟨fun _ _=>trivial,?_⟩;rw [qC (by intro c h;cases h)];obtain ⟨aG,first,dn,ar⟩:=aB;have pW:=bg.append ar (rb k args.toList);obtain ⟨⟨fn,ig,ah⟩,au⟩:=cf.cI _ _ _ _ _ _ aG he E w _ pW s;have hex:execOp a.eval ⟨dst,.call ⟨.value f,args,types⟩,type,pos,after,guard⟩=callFunc g (first++args.map a.eval):=by
     simp only [execOp,resolve,dn,Deferred.ofValue,pure_bind,invoke];simp
    have e:first++args.map a.eval=(first.toList++args.toList.map a.eval).toArray:=by apply arc;simp
    rw [hex,e,u4 bK ig ah];refine ⟨fun h=>by simp at h,sz.2 (au.mono fun e w' aq=>?_)⟩;obtain ⟨ay,x,rfl,aj,an,aJ⟩:=aq;exact cw ay x w' aj an aJ
  rename_i g cs;simp only [Rel] at aB;refine ⟨fun _ _=>trivial,?_⟩;rw [qC (by intro c h;cases h)];rcases aB with ⟨aG,eT,dn,ar⟩ | ⟨aG,b,p,iB,ai,dn⟩
  . have pW:=(rb k args.toList).append ar;obtain ⟨⟨fn,ig,ah⟩,au⟩:=cf.cI _ _ _ _ _ _ aG he E w _ pW s;have hex:execOp a.eval ⟨dst,.call ⟨.value f,args,types⟩,type,pos,after,guard⟩=callFunc g (args.map a.eval++eT):=by
     simp only [execOp,resolve,dn,Deferred.ofValue,pure_bind,invoke];simp
    have e:args.map a.eval++eT=(args.toList.map a.eval++eT.toList).toArray:=by apply arc;simp
    rw [hex,e,u4 bK ig ah];refine ⟨fun h=>by simp at h,sz.2 (au.mono fun e w' aq=>?_)⟩;obtain ⟨ay,x,rfl,aj,an,aJ⟩:=aq;exact cw ay x w' aj an aJ
  . subst aG;exact absurd he (cf.Wl _ _ _ _)
def nM (az:Fr) (E:Env) (aw:Nat) (K:Act->World->Prop) (Q:Exit->Act->World->Prop):oD->Prop
 | .ok r h=>∀ay bk w',E.le ay->fo ay aw r bk->ba az ay h w'->K bk w'
 | .cI v r h=>∀ay bk w' x,E.le ay->fo ay aw r bk->Rel ay v x->ba az ay h w'->Q (.panic (qu x)) bk w'
 | .fail=>False
theorem nM.up {az:Fr} {E ay:Env} (h:E.le ay) {aw:Nat} {K:Act->World->Prop} {Q:Exit->Act->World->Prop} {x:oD} (k:nM az E aw K Q x):nM az ay aw K Q x:=by
 cases x with
 | ok r a7=>exact fun bM a w ab=>k bM a w (h.trans ab)
 | cI v r a7=>exact fun bM a w x ab=>k bM a w x (h.trans ab)
 | fail=>exact k
theorem Ub {rd:Option Nat} {az:Fr} {E:Env} {h:ae} {w:World} {call:dR} (bK:ep P) (cf:gJ P call) (dH:gV P call) {all:Array Oper} {i:Nat} {o:Oper} (ax:all[i]? =some o) {aw:Nat} {r:bI} {a:Act}
 (aH:eV aw o.dst=true) (k:fo E aw r a) (s:ba az E h w) {K:Act->World->Prop} {Q:Exit->Act->World->Prop} (hw:Region.wanted o (yielded all a.tmps)=true)
 (ai:nM az E aw K Q (FH (l0 o.op) (fp P o) (fI o.dst) call r h)):wpOpIn (cc rd) 0 P all Q i K a w:=by
 simp only [wpOpIn,ax,hw,ap0];unfold FH at ai;cases aT:(fp P o).run call r h with
 | fail=>rw [aT] at ai;exact ai.elim
 | val v U=>
   rw [aT] at ai;exact PL bK cf dH aT k.toRegRel0 s fun ay x w' aj an aJ=>ai ay _ w' aj ((k.mono aj).put aH an) aJ
 | cI v U=>
   rw [aT] at ai;simp only at ai;cases hm:l0 o.op with
   | false=>rw [hm] at ai;exact ai.elim
   | true=>
     rw [hm] at ai;exact PI bK cf hm aT k.toRegRel0 s fun ay x w' aj an aJ=>ai ay a w' x aj (k.mono aj) an aJ
theorem V4 {rd:Option Nat} {az:Fr} {E:Env} {h:ae} {w:World} {all:Array Oper} {i:Nat} {o:Oper} (ax:all[i]? =some o) {aw:Nat} {r:bI} {a:Act}
 (aH:eV aw o.dst=true) (k:fo E aw r a) (s:ba az E h w) {K:Act->World->Prop} {Q:Exit->Act->World->Prop} (hw:Region.wanted o (yielded all a.tmps)=false)
 (ai:nM az E aw K Q (.ok ((fI o.dst).run r (.tuple [])) h)):wpOpIn (cc rd) 0 P all Q i K a w:=by
 simp only [wpOpIn,ax,hw,apG,ap2];exact ⟨fun _ _=>trivial,ai E _ w (Env.le.refl E) (k.put aH (by simp only [Rel];exact ⟨#[],rfl,rfl⟩)) s⟩
theorem FG {rd:Option Nat} {az:Fr} {E:Env} {h:ae} {w:World} {call:dR} (bK:ep P) (cf:gJ P call) (dH:gV P call) {all:Array Oper} {i:Nat} {o:Oper} (ax:all[i]? =some o) {aw:Nat} {r:bI} {a:Act}
 (aH:eV aw o.dst=true) (k:fo E aw r a) (s:ba az E h w) {K:Act->World->Prop} {Q:Exit->Act->World->Prop}
 (ai:nM az E aw K Q ((za P aw all o).run call r h)):wpOpIn (cc rd) 0 P all Q i K a w:=by
 unfold za at ai;cases aG:o.guard with
 | none=>
   rw [aG] at ai;exact Ub bK cf dH ax aH k s (by simp [Region.wanted,aG]) ai
 | some n'=>
   obtain ⟨j,want⟩:=n';rw [aG] at ai;simp only at ai;cases bC:all[j]? with
   | none=>rw [bC] at ai;exact ai.elim
   | some g=>
     rw [bC] at ai;simp only at ai;cases iN:g.dst with
     | none=>rw [iN] at ai;exact ai.elim
     | some d=>
       rw [iN] at ai;simp only at ai;cases au:(Nat.blt d aw&&Nat.ble d top) with
       | false=>rw [au] at ai;exact ai.elim
       | true=>
         rw [au] at ai;simp only [apt,Q1,oT] at ai;simp only [apn,apQ,apF] at au;obtain ⟨g1,g2⟩:=IL k.toRegRel0 bC iN au.1 au.2;cases bA:T.get .bad (aC d) r<;>rw [bA] at ai<;>simp only at ai<;>try (exact ai.elim)
         . rename_i b;have a8:=g1 b bA;cases ah:(bif want then b else !b) with
           | true=>
             rw [ah] at ai;simp only [apt] at ai;refine Ub bK cf dH ax aH k s ?_ ai;simp only [Region.wanted,aG,a8];cases want<;>cases b<;>simp_all
           | false=>
             rw [ah] at ai;simp only [apA] at ai;refine V4 ax aH k s ?_ ai;simp only [Region.wanted,aG,a8];cases want<;>cases b<;>simp_all
         . rename_i af;have a8:=g2 af bA;refine V4 ax aH k s ?_ ai;simp only [Region.wanted,aG,a8];rfl
theorem lE.list {E:Env} {v:V} {ds:List Deferred} (k:lE E v ds):nF E v.list ds:=by
 cases v<;>first
  | exact k
theorem aj8 {rd:Option Nat} {az:Fr} {E:Env} {h:ae} {w:World} {call:dR} (bK:ep P) (cf:gJ P call) (dH:gV P call) {all:Array Oper} {i:Nat} {o:Oper} (ax:all[i]? =some o) {aw:Nat} {r:bI} {a:Act}
 (aD:rd=none\/KV o=true) (k:fo E aw r a) (s:ba az E h w) {K:Act->World->Prop} {Q:Exit->Act->World->Prop}
 (ai:nM az E aw K Q ((FF P aw all o).run call r h)):wpOpIn (cc rd) 0 P all Q i K a w:=by
 unfold FF at ai;cases aH:eV aw o.dst with
 | false=>rw [aH] at ai;exact ai.elim
 | true=>
   rw [aH] at ai;simp only [apt] at ai;obtain ⟨dst,op,type,pos,after,guard⟩:=o;cases op with
   | defer c=>
     rcases aD with rfl | aD
     case inr=>cases aD
     simp only at ai;cases guard with
     | some _=>exact ai.elim
     | none=>
       simp only at ai;obtain ⟨callee,args,types⟩:=c;simp only [PR] at ai;cases callee<;>simp only at ai<;>try (exact ai.elim)
       rename_i f;unfold PS at ai;have aB:=dB k.toRegRel0 f;generalize (bV f).run r=xg at ai aB;cases xg<;>simp only at ai<;>try (exact ai.elim)
       rename_i g cs;cases a8:Nat.beq g dv with
       | true=>rw [a8] at ai;exact ai.elim
       | false=>
         rw [a8] at ai;simp only [apA] at ai;have Ry:g≠dv:=fun e=>by rw [e] at a8;exact absurd a8 (by decide)
         simp only [Rel] at aB;rcases aB with ⟨_,eT,dn,ar⟩ | ⟨aG,_⟩
         case inr=>exact absurd aG Ry
         simp only [wpOpIn,ax,Region.wanted,ap0];refine ⟨fun _ _=>trivial,?_⟩;have hex:((Oper.mk dst (.defer ⟨.value f,args,types⟩) type pos after none).semAt (cc none).round a.eval).run P w=.ok (.defer {target:=.fn (.func g) eT,args:=#[]++args.map a.eval}) w:=by simp only [Oper.semAt_none,execOp,resolve,dn,Deferred.ofValue,pure_bind];rfl
         rw [hex];refine ai E _ w (Env.le.refl E) (fo.put ?_ aH (by simp only [Rel];exact ⟨#[],rfl,rfl⟩)) s;refine ⟨⟨k.size,fun t aE=>?_⟩,?_⟩
         rotate_left
         . rw [T.ie,apB rfl];simp only [lE,nF];refine ⟨_,_,rfl,⟨Ry,eT,rfl,?_⟩,k.defers.list⟩;have:=(rb k.toRegRel0 args.toList).append ar;simpa using this
         . rw [T.ie,apu (fun e=>w1 aE e.symm)];exact k.ak t aE
   | binOp op t x y u=>
     simp only at ai;cases guard with
     | some g=>exact FG bK cf dH ax aH k s ai
     | none=>
       simp only at ai;cases lP:w5 P op t with
       | none=>rw [lP] at ai;exact FG bK cf dH ax aH k s ai
       | some neg=>
         rw [lP] at ai;simp only [UE] at ai;cases aq:jF h ((bV x).run r) ((bV y).run r) with
         | none=>rw [aq] at ai;exact FG bK cf dH ax aH k s ai
         | some b=>
           rw [aq] at ai;simp only [wpOpIn,ax,Region.wanted,ap0];obtain ⟨Z,e9,cR⟩:=UC (P:=P) (ji:=x) (jj:=y) s lP aq (dB k.toRegRel0 x) (dB k.toRegRel0 y);exact gd rfl (c9.plain s e9 cR) fun ay v w' aj an aJ=>ai ay _ w' aj ((k.mono aj).put aH an) aJ
   | _=>exact FG bK cf dH ax aH k s ai
theorem Uc {rd:Option Nat} {az:Fr} {call:dR} (bK:ep P) (cf:gJ P call) (dH:gV P call) {all:Array Oper} {aw:Nat} {Q:Exit->Act->World->Prop}:∀(l:List Oper) (i:Nat),(∀j,l[j]? =all[i+j]?)->(rd=none\/∀o ∈ l,KV o=true)->
 ∀(E:Env) (r:bI) (h:ae) (a:Act) (w:World),nM az E aw (Q .normal) Q ((Cb P aw all l).run call r h)->fo E aw r a->ba az E h w->
 wpOpsIn (cc rd) 0 P all Q (List.range' i l.length) a w
 | [],i,_,_,E,r,h,a,w,ai,k,s=>by simp only [Cb] at ai;simp only [ap5,List.range'_zero,wpOpsIn];exact ai E a w (Env.le.refl E) k s
 | o::os,i,ar,aD,E,r,h,a,w,ai,k,s=>by
   simp only [Cb,Vr] at ai;have ax:all[i]? =some o:=by have:=ar 0;simpa using this.symm
   rw [apz,List.range'_succ,wpOpsIn_cons];refine aj8 bK cf dH ax (aD.imp id fun h=>h o (by simp)) k s ?_;cases U:(FF P aw all o).run call r h with
   | fail=>rw [U] at ai;exact ai
   | cI v a' o1=>rw [U] at ai;exact ai
   | ok a' o1=>
     rw [U] at ai;simp only at ai;intro ay bk w' aj an aJ;refine Uc bK cf dH os (i+1) (fun j=>?_) (aD.imp id fun h b_ hl=>h b_ (by simp [hl])) ay a' o1 bk w' (ai.up aj) an aJ;have:=ar (j+1);simp only [aqq] at this;rw [this];congr 1;omega
end
theorem Qj {a b:V} (h:D1 a b=true):a=b:=by
 cases a<;>cases b<;>simp only [D1] at h<;>first
  | rfl
  | (cases h;done)
  | (rename_i x y;cases x<;>cases y<;>simp_all;done)
  | (rename_i k x l y
     simp only [apn] at h;have U:=ua h.1;have ab:=h.2;rw [mf,aq0] at ab;rw [U,ab];done)
  | (rw [vK,aq0] at h;rw [h];done)
  | (simp only [apn,apT] at h
     obtain ⟨U,ab,aI,bq⟩:=h;rw [aO.mf U,ab,aI,bq];done)
  | (simp only [apn,apT] at h
     rw [aO.mf h.1,h.2];done)
  | (rw [aO.mf h];done)
  | (simp only [apn,apT,List.isEmpty_iff] at h
     obtain ⟨U,ab,aI⟩:=h;rw [U,ab,aI];done)
  | (simp only [apn,List.isEmpty_iff] at h
     rw [h.1,h.2];done)
theorem Iu {f:V->V->Bool} (aB:∀a b,f a b=true->a=b):∀{a b:List V},x1 f a b=true->a=b
 | [],[],_=>rfl
 | [],_::_,h=>by cases h
 | _::_,[],h=>by cases h
 | a::x,b::y,h=>by
   simp only [x1] at h;cases U:f a b with
   | false=>rw [U] at h;cases h
   | true=>
     rw [U] at h;rw [aB a b U,Iu aB h]
theorem Yk {c x:Bool} (h:(bif c then x else false)=true):c=true/\x=true:=by
 cases c with
 | false=>cases h
 | true=>exact ⟨rfl,h⟩
theorem Qk:∀(d:Nat) (a b:V),vW d a b=true->a=b
 | 0,a,b,h=>Qj h
 | d+1,a,b,h=>by
   have bh:=Qk d;cases a<;>simp only [vW] at h<;>first
    | exact Qj h
    | (cases b<;>simp only at h<;>first
        | (cases h;done)
        | rfl
        | (rw [Iu bh h];done)
        | (obtain ⟨U,ab⟩:=Yk h
           rw [apT] at U;rw [U]
           first
            | rw [Iu bh ab]
            | rw [bh _ _ ab]))
theorem Iv {a b:V} (h:AM a b=true):a=b:=Qk 5 a b h
theorem Au (m i:Nat):fR m i=m.testBit i:=by
 rw [Nat.testBit_eq_decide_div_mod_eq];unfold fR;have e:Nat.mod (Nat.shiftRight m i) 2=m / 2 ^ i % 2:=by show (m >>> i) % 2=_;rw [Nat.shiftRight_eq_div_pow]
 rw [e,aqg,apT,apE]
theorem KH {dX:List Nat} {i:Nat}:∀{es:List Edge},fR (uN dX es) i=true->∃e ∈ es,vL e=true/\(e.on=i\/fR ((dX[e.on]?).getD 0) i=true)
 | [],h=>by simp [uN,Au] at h
 | e::es,h=>by
   simp only [uN] at h;cases ah:vL e with
   | false=>
     rw [ah] at h;obtain ⟨c6,U,ab⟩:=KH (es:=es) h;exact ⟨c6,by simp [U],ab⟩
   | true=>
     rw [ah] at h;simp only [apt,Au] at h;have aa:((1 <<< e.on||| (dX[e.on]?).getD 0)||| uN dX es).testBit i=true:=h;rw [Nat.testBit_or,Nat.testBit_or,aqS,aqS] at aa;rcases aa with (U | U) | U
     . refine ⟨e,by simp,ah,.inl ?_⟩;rw [Nat.testBit_shiftLeft] at U;simp only [apn,apE] at U;have:=U.2;rw [Nat.testBit_one_eq_true_iff_self_eq_zero] at this;omega
     . exact ⟨e,by simp,ah,.inr (by rw [Au];exact U)⟩
     . rw [<-Au] at U;obtain ⟨c6,aj,an⟩:=KH (es:=es) U;exact ⟨c6,by simp [aj],an⟩
def qN (ops:Array Oper) (L:Nat->Prop):Prop:=∀k o e,L k->ops[k]? =some o->e ∈ o.after.toList->vL e=true->L e.on
theorem BY {ops:Array Oper} {L:Nat->Prop} (AV:qN ops L):∀(os:List Oper) (dX:List Nat),(∀j,os[j]? =ops[dX.length+j]?)->
 (∀k m i,dX[k]? =some m->fR m i=true->L k->L i)->∀k m i,(eP dX os)[k]? =some m->fR m i=true->L k->L i
 | [],dX,_,h,k,m,i,aA,ah,cX=>h k m i aA ah cX
 | o::os,dX,o5,h,k,m,i,aA,ah,cX=>by
   simp only [eP] at aA;refine BY AV os (dX++[uN dX o.after.toList]) (fun j=>?_) (fun k m i aA ah cX=>?_) k m i aA ah cX
   . have:=o5 (j+1);simp only [aqq] at this;rw [this];congr 1;simp;omega
   . by_cases aL:k<dX.length
     . rw [apM aL] at aA;exact h k m i aA ah cX
     . rw [apN (by omega)] at aA;have Bb:k-dX.length=0:=by
        cases bm:k-dX.length with
        | zero=>rfl
        | succ n=>rw [bm] at aA;simp at aA
       rw [Bb] at aA;simp only [apH,apq] at aA;subst aA;have EI:k=dX.length:=by omega
       have aT:ops[k]? =some o:=by have:=o5 0;simp only [apH,aqH] at this;rw [EI];exact this.symm
       obtain ⟨e,he,I3,hX⟩:=KH ah;have Q_:=AV k o e cX aT he I3;rcases hX with rfl | hX
       . exact Q_
       . cases hm:dX[e.on]? with
         | none=>rw [hm] at hX;simp [Au] at hX
         | some cZ=>rw [hm] at hX;exact h e.on cZ i hm hX Q_
theorem qJ {f:Nat->Nat->Oper->Bool}:∀{k:Nat} {ms:List Nat} {os:List Oper},nD f k ms os=true->∀j o,os[j]? =some o->∃m,ms[j]? =some m/\f (k+j) m o=true
 | _,_,[],_,j,o,h=>by simp at h
 | _,[],_::_,h,_,_,_=>by cases h
 | k,m::ms,b_::os,h,j,o,aT=>by
   simp only [nD,apn] at h;cases j with
   | zero=>simp only [apH,apq] at aT;subst aT;exact ⟨m,rfl,h.1⟩
   | succ j=>
     obtain ⟨cZ,U,ab⟩:=qJ h.2 j o (by simpa using aT);exact ⟨cZ,by simpa using U,by rw [show k + (j+1)=k+1+j from by omega];exact ab⟩
theorem Mr {f:Nat->Nat->Oper->Bool}:∀{k:Nat} {ms:List Nat} {os:List Oper},ms.length=os.length->(∀j m o,ms[j]? =some m->os[j]? =some o->f (k+j) m o=true)->nD f k ms os=true
 | _,[],[],_,_=>rfl
 | _,[],_::_,h,_=>by simp at h
 | _,_::_,[],h,_=>by simp at h
 | k,m::ms,o::os,h,aB=>by simp only [nD,apn];refine ⟨aB 0 m o rfl rfl,Mr (by simpa using h) fun j cZ b_ U ab=>?_⟩;have:=aB (j+1) cZ b_ (by simpa using U) (by simpa using ab);rw [show k+1+j=k + (j+1) from by omega];exact this
theorem KI:∀(os:List Oper) (dX:List Nat),(eP dX os).length=dX.length+os.length
 | [],dX=>rfl
 | o::os,dX=>by simp [eP,KI os];omega
section
variable {P:Program}
theorem PK {o:Oper} {call:dR} {r:bI} {h aa:ae} {v:V} (aq:e4 P o.op=false) (he:(fp P o).run call r h=.val v aa):aa=h:=by
 obtain ⟨dst,op,type,pos,after,guard⟩:=o;cases op<;>simp only [e4] at aq<;>try (cases aq;done)
 all_goals simp only [fp] at he
 case convert s d x=>
  unfold q6 at he;cases aW:bc P s with
  | none=>rw [aW] at he;cases he
  | some u5=>
    cases aH:bc P d with
    | none=>rw [aH] at aq;cases aq
    | some oO=>
      rw [aW,aH] at he;rw [aH] at aq;simp only at he aq;cases hu:oO.bj with
      | int k=>
        rw [hu] at he;obtain ⟨bp,n,_,U⟩:=tc he;simp only [a_.val.injEq] at U;exact U.2.symm
      | slice e=>rw [hu] at aq;cases aq
      | string=>
        rw [hu] at he;simp only at he
        have other:∀x:V,(match x with
         | .str s=>a_.val (.str s) h
         | .int _ n=>.val (.str (Utf8.encode n).data.toList) h
         | _=>.fail)=.val v aa->aa=h:=by
         intro x he;cases x<;>simp only at he<;>first
          | (cases he;done)
          | (simp only [a_.val.injEq] at he;exact he.2.symm)
        cases ng:u5.bj with
        | slice e=>
          rw [ng] at he;simp only at he;cases cp:bc P e with
          | none=>rw [cp] at he;cases he
          | some bf=>
            rw [cp] at he;simp only at he;have amj:∀b off len,u9 b off len h=.val v aa->aa=h:=by
             intro b off len he;unfold u9 at he;cases aG:h.get b<;>rw [aG] at he<;>simp only [b'.pr] at he<;>try (cases he;done)
             all_goals
              obtain ⟨_,ab⟩:=j9 he;cases aeS:ov (hF _ off len)<;>rw [aeS] at ab<;>first
               | (cases ab;done)
               | (simp only [a_.val.injEq] at ab;exact ab.2.symm)
            cases eM:bf.bj with
            | int BK=>
              rw [eM] at he;cases BK<;>simp only at he<;>try (cases he;done)
              simp only [tY] at he;cases ao:(bV x).run r<;>rw [ao] at he<;>simp only at he<;>first
               | (cases he;done)
               | exact amj _ _ _ he
               | (simp only [a_.val.injEq] at he;exact he.2.symm)
            | _=>rw [eM] at he;cases he
        | _=>rw [ng] at he;exact other _ he
      | _=>rw [hu] at he;cases he
 case call c=>
  obtain ⟨callee,args,types⟩:=c;cases callee<;>simp only at aq<;>try (cases aq;done)
  rename_i b;simp only [sw] at he;cases b<;>simp only at aq<;>try (cases aq;done)
  . simp only [q2] at he;cases ff:types.toList with
    | nil=>rw [ff] at he;simp [fY.none] at he
    | cons t bx=>
      cases bx with
      | cons _ _=>rw [ff] at he;simp [fY.none] at he
      | nil=>
        rw [ff] at he;simp only at he;cases aE:bc P t with
        | none=>rw [aE] at he;simp [fY.none] at he
        | some aP=>
          rw [aE] at he;rw [ff] at aq;simp only [Kl,aE] at aq;simp only [aq,apA] at he
          split at he
          . exact (a_.iG he).2
          . cases he
  . exact (a_.iG he).2
  . exact (a_.iG he).2
 case move=>simp only [a_.val.injEq] at he;exact he.2.symm
 case assign=>simp only [a_.val.injEq] at he;exact he.2.symm
 case pick c a b=>
  split at he
  . simp only [a_.val.injEq] at he;exact he.2.symm
  . cases he
 case makeFunc fn first eT=>
  cases fn<;>simp only at he<;>try (simp [dr.none] at he;done)
  rename_i f;cases aB:(first.isEmpty&&!Nat.beq f dv)<;>rw [aB] at he
  . simp only [apA] at he;cases jy:(eT.isEmpty&&!Nat.beq f dv)<;>rw [jy] at he
    . simp [dr.none] at he
    . simp only [apt,a_.val.injEq] at he;exact he.2.symm
  . simp only [apt,a_.val.injEq] at he;exact he.2.symm
 case typeAssert x vb t ok=>
  cases aE:bc P t with
  | none=>rw [aE] at he;simp [dr.none] at he
  | some aP=>
    rw [aE] at he;simp only at he;cases ah:Nat.beq (e_ aP.bj) 5<;>rw [ah] at he
    . exact (a_.iG he).2
    . simp [dr.none] at he
 case makeInterface t x=>
  cases aE:bc P t with
  | none=>rw [aE] at he;simp [dr.none] at he
  | some aP=>
    rw [aE] at he;simp only at he;cases ah:Nat.beq (e_ aP.bj) 5<;>rw [ah] at he
    . simp only [apA,a_.val.injEq] at he;exact he.2.symm
    . simp [dr.none] at he
 case extract x i=>
  split at he
  . exact (a_.iG he).2
  . cases he
 all_goals exact (a_.iG he).2
theorem a_.w0 {h aa:ae} {x:Option V} {v:V} (he:a_.of h x=.val v aa) (H:ae):a_.of H x=.val v H:=by rw [(a_.iG he).1];rfl
theorem PJ {o:Oper} {call:dR} {r:bI} {h aa:ae} {v:V} (aq:e4 P o.op=false) (ar:looks o.op=false) (he:(fp P o).run call r h=.val v aa) (H:ae):(fp P o).run call r H=.val v H:=by
 obtain ⟨dst,op,type,pos,after,guard⟩:=o;cases op<;>simp only [e4] at aq<;>try (cases aq;done)
 all_goals simp only [looks] at ar<;>try (cases ar;done)
 all_goals simp only [fp] at he ⊢
 case call c=>
  obtain ⟨callee,args,types⟩:=c;cases callee<;>simp only at aq<;>try (cases aq;done)
  rename_i b;simp only [sw] at he ⊢;cases b<;>simp only at aq<;>try (cases aq;done)
  . simp only [q2] at he ⊢;cases ff:types.toList with
    | nil=>rw [ff] at he;simp [fY.none] at he
    | cons t bx=>
      cases bx with
      | cons _ _=>rw [ff] at he;simp [fY.none] at he
      | nil=>
        rw [ff] at he;simp only at he ⊢;cases aE:bc P t with
        | none=>rw [aE] at he;simp [fY.none] at he
        | some aP=>
          rw [aE] at he;rw [ff] at aq;simp only [Kl,aE] at aq;simp only [aq,apA] at he ⊢
          split at he
          . exact a_.w0 he H
          . cases he
  . exact a_.w0 he H
  . exact a_.w0 he H
 case move=>simp only [a_.val.injEq] at he;rw [he.1]
 case assign=>simp only [a_.val.injEq] at he;rw [he.1]
 case pick c a b=>
  split at he
  . simp only [a_.val.injEq] at he;rw [he.1]
  . cases he
 case makeFunc fn first eT=>
  cases fn<;>simp only at he ⊢<;>try (simp [dr.none] at he;done)
  rename_i f;cases aB:(first.isEmpty&&!Nat.beq f dv)<;>rw [aB] at he
  . simp only [apA] at he ⊢;cases jy:(eT.isEmpty&&!Nat.beq f dv)<;>rw [jy] at he
    . simp [dr.none] at he
    . simp only [apt,a_.val.injEq] at he ⊢;exact ⟨he.1,trivial⟩
  . simp only [apt,a_.val.injEq] at he ⊢;exact ⟨he.1,trivial⟩
 case typeAssert x vb t ok=>
  cases aE:bc P t with
  | none=>rw [aE] at he;simp [dr.none] at he
  | some aP=>
    rw [aE] at he;simp only at he ⊢;cases ah:Nat.beq (e_ aP.bj) 5<;>rw [ah] at he
    . exact a_.w0 he H
    . simp [dr.none] at he
 case makeInterface t x=>
  cases aE:bc P t with
  | none=>rw [aE] at he;simp [dr.none] at he
  | some aP=>
    rw [aE] at he;simp only at he ⊢;cases ah:Nat.beq (e_ aP.bj) 5<;>rw [ah] at he
    . simp only [apA,a_.val.injEq] at he ⊢;exact ⟨he.1,trivial⟩
    . simp [dr.none] at he
 case extract x i=>
  split at he
  . exact a_.w0 he H
  . cases he
 all_goals exact a_.w0 he H
end
section
variable {P:Program}
def He (P:Program) (E:Env) (m:Sem Value) (v:V) (h aa:ae):Prop:=
 ∃k,aa=h.new k/\True/\∀w,∃X cM,m.run P w=.ok X {w with heap:=w.heap.push cM}/\
  ∀ay,E.le ay->ay (aC h.next)=some ⟨w.heap.size,0,0⟩->Rel ay v X/\∀B,B<=w.heap.size->fK B ay {w with heap:=w.heap.push cM} (aC h.next) k
theorem Fp {E:Env} {h aa:ae} {af:List V} {l:List Value} (ar:bg E af l) (he:gk h af=some aa) (t:TypeId):
 ∃k,aa=h.new k/\True/\∀w,(newRow t l.toArray).run P w=.ok ⟨w.heap.size,0,none⟩ {w with heap:=w.heap.push (.cells l.toArray t)}/\
  ∀ay,E.le ay->ay (aC h.next)=some ⟨w.heap.size,0,0⟩->∀B,B<=w.heap.size->fK B ay {w with heap:=w.heap.push (.cells l.toArray t)} (aC h.next) k:=by
 unfold gk at he;obtain ⟨au,he⟩:=eJ he;rw [apF] at au;cases he;refine ⟨_,rfl,trivial,fun w=>⟨by simp [newRow],fun ay hle dt B cC=>?_⟩⟩;have:=IE (bg.mono hle _ _ ar) au #[]
 rw [Array.append_empty] at this;exact ⟨au,_,_,t,(0,0),dt,cC,by simp,.inr (aps _),fun _=>rfl,fun h=>absurd rfl h,this⟩
theorem Yw {E:Env} {h aa:ae} {t:TypeId} {n:Nat} {bn:List (Nat × V)} {jZ:List (Nat × Value)} {v:V} (ai:sh E bn jZ) (he:(vN P t n).run bn h=.val v aa):
 He P E (Instr.buildSlice t n jZ.toArray) v h aa:=by
 unfold vN at he;cases aE:bc P t with
 | none=>rw [aE] at he;cases he
 | some aP=>
   rw [aE] at he;simp only at he;have hu:=fA aE;cases bX:aP.bj with
   | slice e=>
     rw [bX] at he hu;simp only at he;cases cp:bc P e with
     | none=>rw [cp] at he;cases he
     | some bf=>
       rw [cp] at he;simp only at he;cases bm:bf.zero with
       | none=>rw [bm] at he;cases he
       | some z=>
         rw [bm] at he;simp only at he;cases au:(Nat.ble (n * bf.size) 1000000&&Nat.beq z.cells.length bf.size) with
         | false=>rw [au] at he;cases he
         | true=>
           rw [au] at he;simp only [apt] at he;simp only [apn,apF,apT] at au;cases aB:mY (fun i=>some (i * bf.size,bf.size)) (iH z.cells n) bn with
           | none=>rw [aB] at he;cases he
           | some cs=>
             rw [aB] at he;simp only at he;cases aV:gk h cs with
             | none=>rw [aV] at he;cases he
             | some U=>
               rw [aV] at he;simp only [a_.val.injEq] at he;obtain ⟨rfl,rfl⟩:=he;obtain ⟨x,ao,o7,o8⟩:=tA (P:=P) (E:=E) cp bm ⟨#[],fun _ _=>0,0,default,#[]⟩;have sS:x.cells.size=bf.size:=by rw [o8,au.2]
               have sR:=zj o7 n;rw [sS] at sR;obtain ⟨b,kF,pY⟩:=AO (a:=(Array.range (n * bf.size)).map (x.cells[· % x.cells.size]!)) ai (by rw [sS];exact sR) aB;obtain ⟨k,g1,g2,g3⟩:=Fp (P:=P) pY aV e;refine ⟨k,g1,g2,fun w=>⟨.slice (some ⟨w.heap.size,0,none⟩) n n,.cells b e,?_,fun ay hle dt=>⟨?_,?_⟩⟩⟩
               . have wB:¬16777216<n * bf.size:=by omega
                 have kJ:(newRow e b).run P w=.ok ⟨w.heap.size,0,none⟩ {w with heap:=w.heap.push (.cells b e)}:=by simpa using (g3 w).1
                 by_cases aY:n * bf.size=0
                 . have I1:Instr.fill (fun i=>some (i * bf.size,bf.size)) ((Array.range (n * bf.size)).map ((#[]:Array Value)[· % 0]!)) jZ=some b:=by
                    have av:(Array.range (n * bf.size)).map ((#[]:Array Value)[· % 0]!)=(Array.range (n * bf.size)).map (x.cells[· % x.cells.size]!):=by rw [aY];simp
                    rw [av];exact kF
                   have I2:Instr.fill (fun i=>some (i * bf.size,bf.size)) ((Array.range (n * bf.size)).map (fun x=>(#[]:Array Value)[x % (#[]:Array Value).size]!)) jZ=some b:=I1;simp only [Instr.buildSlice,Sem.run_bind,hu,Result.andThen_ok,j1 cp,Sem.run_ite];rw [apu wB];simp only [Sem.run_pure,Result.andThen_ok,apB aY];rw [I2];simp only [Sem.run_bind,kJ,Result.andThen_ok,Sem.run_pure]
                 . simp only [Instr.buildSlice,Sem.run_bind,hu,Result.andThen_ok,j1 cp,Sem.run_ite];rw [apu wB];simp only [Sem.run_pure,Result.andThen_ok,apu aY,ao];rw [kF];simp only [Sem.run_bind,kJ,Result.andThen_ok,Sem.run_pure]
               . simp only [Rel];exact ⟨_,dt,aps _,by simp⟩
               . simpa using (g3 w).2 ay hle dt
   | _=>rw [bX] at he;cases he
theorem aiO {E:Env} {h aa:ae} {t:TypeId} {x y v:V} {X Y:Value} (ao:Rel E x X) (a8:Rel E y Y) (he:(wU P t).run x y h=.val v aa):
 He P E (Instr.makeSlice t X Y) v h aa:=by
 unfold wU at he;cases aE:bc P t with
 | none=>rw [aE] at he;cases he
 | some aP=>
   rw [aE] at he;simp only at he;have hu:=fA aE;cases bX:aP.bj with
   | slice e=>
     rw [bX] at he hu;simp only at he;cases cp:bc P e with
     | none=>rw [cp] at he;cases he
     | some bf=>
       rw [cp] at he;simp only at he;cases bm:bf.zero with
       | none=>rw [bm] at he;cases he
       | some z=>
         rw [bm] at he;simp only at he;cases wh:Nat.ble bf.bytes 4096 with
         | false=>rw [wh] at he;cases he
         | true=>
           rw [wh] at he;simp only [apt,uM] at he;obtain ⟨cm,l,rfl,yk⟩:=tc he;obtain ⟨cz,c,rfl,et⟩:=tc yk;have:=ao.iU;subst this;have:=a8.iU;subst this;obtain ⟨au,p2⟩:=j9 et;simp only [apn,pe,apE,apT] at au;obtain ⟨⟨aY,U,ab⟩,aI⟩:=au;rw [apF] at wh;cases aV:gk h (iH z.cells c.toNat) with
           | none=>rw [aV] at p2;cases p2
           | some a7=>
             rw [aV] at p2;simp only [a_.val.injEq] at p2;obtain ⟨rfl,rfl⟩:=p2;obtain ⟨lD,wL,o7,o8⟩:=tA (P:=P) (E:=E) cp bm ⟨#[],fun _ _=>0,0,default,#[]⟩;have sS:lD.cells.size=bf.size:=by rw [o8,aI]
             have sR:=zj o7 c.toNat;obtain ⟨k,g1,g2,g3⟩:=Fp (P:=P) sR aV e;have uy:IntKind.i64.wrap l=l:=by simp only [IntKind.wrap,IntKind.bits,IntKind.signed];simp;omega
             have Ka:IntKind.i64.wrap c=c:=by simp only [IntKind.wrap,IntKind.bits,IntKind.signed];simp;omega
             have hmul:(bf.bytes:Int) * c<=4096 * 1000000:=by
              have ah:(bf.bytes:Int)<=4096:=by omega
              have:=Int.mul_le_mul_of_nonneg_right (c:=c) ah (by omega);omega
             refine ⟨k,g1,g2,fun w=>?_⟩;obtain ⟨i,ax,rn⟩:=Gc (P:=P) cp w;refine ⟨.slice (some ⟨w.heap.size,0,none⟩) l.toNat c.toNat,_,?_,fun ay hle dt=>⟨?_,(g3 w).2 ay hle dt⟩⟩
             . have kJ:=(g3 w).1;simp only [aqI] at kJ;have bQ:¬c<0:=by omega
               have b2:¬((bf.bytes:Int) * c>281474976710656):=by omega
               have c3:¬l<0:=by omega
               have gr:¬l>c:=by omega
               have same:(if c.toNat * bf.size=0 then (Array.range (c.toNat * bf.size)).map (fun x=>(#[]:Array Value)[x % (#[]:Array Value).size]!) else (Array.range (c.toNat * bf.size)).map (fun x=>lD.cells[x % lD.cells.size]!))=
                (Array.range (c.toNat * lD.cells.size)).map (lD.cells[· % lD.cells.size]!):=by
                rw [sS];by_cases aq:c.toNat * bf.size=0
                . rw [aq];simp
                . rw [apu aq]
               simp only [Instr.makeSlice,Sem.run_bind,hu,Result.andThen_ok,asInt,asIntOf,Sem.run_pure,ax,uy,Ka,rn];rw [apu (by simp only [aqS,apE,not_or];exact ⟨⟨⟨bQ,b2⟩,c3⟩,gr⟩)];simp only [Result.andThen_ok,Sem.run_bind,run_askRoom,j1 cp];by_cases aq:c.toNat * bf.size=0
               . rw [apB aq] at same;rw [apB aq];simp only [Sem.run_pure,Result.andThen_ok,Sem.run_bind,same,kJ,aqI]
               . rw [apu aq] at same;rw [apu aq];simp only [Sem.run_pure,Result.andThen_ok,Sem.run_bind,wL,same,kJ,aqI]
             . simp only [Rel];exact ⟨_,dt,by omega,by simp⟩
   | _=>rw [bX] at he;cases he
theorem aaC {E:Env} {h aa:ae} {call:dR} {o:Oper} {aw:Nat} {r:bI} {a:Act} {v:V} (bw:gD o=true) (he:(fp P o).run call r h=.val v aa) (k:RegRel0 E aw r a):
 ∃m:Sem Value,execOp a.eval o=(do pure (.value (<-m)))/\He P E m v h aa:=by
 obtain ⟨dst,op,type,pos,after,guard⟩:=o;cases op<;>simp only [gD] at bw<;>try (cases bw;done)
 all_goals simp only [fp] at he
 case alloc t=>
  refine ⟨Instr.alloc t true (.tuple #[]),rfl,?_⟩;cases aE:bc P t with
  | none=>rw [aE] at he;simp [dr.none] at he
  | some aP=>
    rw [aE] at he;simp only at he;cases bm:aP.zero with
    | none=>rw [bm] at he;simp [dr.none] at he
    | some z=>
      rw [bm] at he;simp only at he;cases aV:gk h z.cells with
      | none=>rw [aV] at he;cases he
      | some U=>
        rw [aV] at he;simp only [gT,a_.val.injEq] at he;obtain ⟨rfl,rfl⟩:=he;obtain ⟨x,ao,o7,_⟩:=tA (P:=P) (E:=E) aE bm ⟨#[],fun _ _=>0,0,default,#[]⟩;obtain ⟨cY,g1,g2,g3⟩:=Fp (P:=P) o7 aV t;refine ⟨cY,g1,g2,fun w=>⟨.pointer (some ⟨w.heap.size,0,none⟩),.cells x.cells t,?_,fun ay hle dt=>⟨?_,?_⟩⟩⟩
        . have:=(g3 w).1;simp only [aqI] at this;simp only [Instr.alloc,Sem.run_bind,ao,Result.andThen_ok,newVar,this,Sem.run_pure]
        . simp only [Rel];exact ⟨_,dt,by simp⟩
        . simpa using (g3 w).2 ay hle dt
 case box t x=>
  refine ⟨Instr.box t (a.eval x),rfl,?_⟩;obtain ⟨aG,he⟩:=j9 he;cases aV:gk h ((bV x).run r).cells with
  | none=>rw [aV] at he;cases he
  | some U=>
    rw [aV] at he;simp only [gT,a_.val.injEq] at he;obtain ⟨rfl,rfl⟩:=he;have ar:=(dB k x).cells (fun e=>by rw [e] at aG;cases aG);obtain ⟨cY,g1,g2,g3⟩:=Fp (P:=P) ar aV t;refine ⟨cY,g1,g2,fun w=>⟨.pointer (some ⟨w.heap.size,0,none⟩),.cells (a.eval x).cells t,?_,fun ay hle dt=>⟨?_,?_⟩⟩⟩
    . have:=(g3 w).1;simp only [aqI] at this;simp only [Instr.box,Sem.run_bind,newVar,this,Result.andThen_ok,Sem.run_pure]
    . simp only [Rel];exact ⟨_,dt,by simp⟩
    . simpa using (g3 w).2 ay hle dt
 case buildSlice t n bn=>
  refine ⟨Instr.buildSlice t n (bn.map fun (i,x)=>(i,a.eval x)),rfl,?_⟩;rw [Ld];exact Yw (FK k bn.toList) he
 case makeSlice t l c=>exact ⟨Instr.makeSlice t (a.eval l) (a.eval c),rfl,aiO (dB k l) (dB k c) he⟩
 case makeMap t x=>
  cases x with
  | some _=>cases bw
  | none=>
    refine ⟨Instr.makeMap t none,rfl,?_⟩;simp only [rL,yX] at he;cases aE:bc P t with
    | none=>rw [aE] at he;cases he
    | some aP=>
      rw [aE] at he;simp only at he;cases ah:Nat.beq (e_ aP.bj) 3 with
      | false=>rw [ah] at he;cases he
      | true=>
        rw [ah] at he;simp only [apt,rG,s8] at he;simp only [a_.val.injEq] at he;obtain ⟨rfl,rfl⟩:=he;refine ⟨_,rfl,trivial,fun w=>⟨.map (some w.heap.size),.map #[] 0,?_,fun ay hle dt=>⟨?_,fun B cC=>?_⟩⟩⟩
        . simp only [Instr.makeMap,Sem.run_bind,run_newObj,Result.andThen_ok,Sem.run_pure]
        . simp only [Rel];exact ⟨_,dt,rfl⟩
        . exact ⟨_,#[],dt,cC,by simp,rfl⟩
def Fr.hold (F:Fr) (b:aO) (k:b'):Fr:=⟨F.w,fun bO=>if bO=b then some k else F.ht bO⟩
def Fr.free (F:Fr) (b:aO):Fr:=⟨F.w,fun bO=>if bO=b then none else F.ht bO⟩
theorem ba.hold {F:Fr} {E:Env} {h:ae} {w:World} (s:ba F E h w) (k:b'):ba (F.hold (aC h.next) k) E (h.new k) w:=by
 have dC:=s.fresh h.next (aps _)
 refine ⟨fun b ah=>?_,fun b bp aA=>?_,fun b bO p p' U ab av aK jx=>?_,fun i ax=>s.fresh i (Nat.le_of_succ_le ax),s.frame,s.laid,fun b p n cs st U av=>s.base b p n cs st (by
  have cL:aC h.next≠b:=fun e=>by rw [<-e,dC] at av;cases av
  rwa [ae.iz,apu cL] at U) av⟩
 . simp only [Fr.hold] at ah;by_cases aq:b=aC h.next
   . rw [apB aq] at ah;cases ah
   . rw [apu aq] at ah;rw [ae.iz,apu (fun e=>aq e.symm)];exact s.aS b ah
 . simp only [Fr.hold] at aA;by_cases aq:b=aC h.next
   . rw [apB aq] at aA;cases aA;exact ⟨by rw [ae.iz,apB aq.symm],by rw [aq];exact dC,h.next,Nat.lt_succ_self _,aq⟩
   . rw [apu aq] at aA;obtain ⟨aj,an,i,aJ,bE⟩:=s.oh b bp aA;exact ⟨by rw [ae.iz,apu (fun e=>aq e.symm)];exact aj,an,i,Nat.lt_succ_of_lt aJ,bE⟩
 . have cL:aC h.next≠b:=fun e=>by rw [<-e,dC] at av;cases av
   have fi:aC h.next≠bO:=fun e=>by rw [<-e,dC] at aK;cases aK
   rw [ae.iz,apu cL] at U;rw [ae.iz,apu fi] at ab;exact s.inj b bO p p' U ab av aK jx
theorem ba.link {F:Fr} {E:Env} {h:ae} {w:World} (s:ba F E h w) {b:aO} {k:b'} (ai:F.ht b=some k) {o:Obj}
 (mv:fK F.w.heap.size (E.put b ⟨w.heap.size,0,0⟩) {w with heap:=w.heap.push o} b k):
 E.le (E.put b ⟨w.heap.size,0,0⟩)/\ba (F.free b) (E.put b ⟨w.heap.size,0,0⟩) h {w with heap:=w.heap.push o}:=by
 obtain ⟨aA,dC,i0,wv,wg⟩:=s.oh b k ai;have hle:E.le (E.put b ⟨w.heap.size,0,0⟩):=Env.mC dC;have dt:E.put b ⟨w.heap.size,0,0⟩ b=some ⟨w.heap.size,0,0⟩:=by unfold Env.put;rw [apB rfl]
 have hold:∀bO,bO≠b->E.put b ⟨w.heap.size,0,0⟩ bO=E bO:=by intro bO ah;unfold Env.put;rw [apu ah]
 have oY:∀bO q,E bO=some q->(h.get bO)≠.dead->q.aS<w.heap.size:=by
  intro bO q aq aH;have ah:=s.at aq;cases aG:h.get bO with
  | dead=>exact absurd aG aH
  | view n cs=>rw [aG] at ah;obtain ⟨_,fk,c,el,b5,e,_,a7,_⟩:=ah;rw [e] at aq;cases aq;exact (apr.1 a7).1
  | cells n cs ct st=>rw [aG] at ah;obtain ⟨_,fk,c,el,b5,e,_,a7,_⟩:=ah;rw [e] at aq;cases aq;exact (apr.1 a7).1
  | iter st pos=>rw [aG] at ah;obtain ⟨fk,e,_,_,a7⟩:=ah;rw [e] at aq;cases aq;exact (apr.1 a7).1
  | mp es clock=>rw [aG] at ah;obtain ⟨fk,a,e,_,a7,_⟩:=ah;rw [e] at aq;cases aq;exact (apr.1 a7).1
  | fz l=>rw [aG] at ah;obtain ⟨fk,a,e,_,a7,_⟩:=ah;rw [e] at aq;cases aq;exact (apr.1 a7).1
  | hC=>rw [aG] at ah;obtain ⟨fk,e,_,a7⟩:=ah;rw [e] at aq;cases aq;exact (apr.1 a7).1
  | hM es=>rw [aG] at ah;obtain ⟨fk,a,c,l,e,_,a7,_⟩:=ah;rw [e] at aq;cases aq;exact (apr.1 a7).1
  | gR src since seen last=>rw [aG] at ah;obtain ⟨fk,m,a,e,_,_,a7,_⟩:=ah;rw [e] at aq;cases aq;exact (apr.1 a7).1
 refine ⟨hle,fun bO hh=>?_,fun bO bp fU=>?_,fun bR b7 cg ck U ab av aK jx=>?_,fun i ax=>?_,⟨s.frame.os,s.frame.tape,s.frame.output,?_,fun j bC=>?_⟩,s.laid,fun bR cg n cs st U av=>by
  by_cases bQ:bR=b
  . subst bQ;rw [dt] at av;cases av;rfl
  . rw [hold bR bQ] at av;exact s.base _ _ _ _ _ U av⟩
 . by_cases aq:bO=b
   . subst aq;rw [aA];exact mv
   . simp only [Fr.free,apu aq] at hh;have aY:=(s.aS bO hh).mono hle;by_cases aH:h.get bO=.dead
     . rw [aH];trivial
     . refine fK.ec aY fun q ij=>?_;rw [hold bO aq] at ij;have:=oY bO q ij aH;simp only [arq];rw [apu (by omega)]
 . simp only [Fr.free] at fU;by_cases aq:bO=b
   . rw [apB aq] at fU;cases fU
   . rw [apu aq] at fU;obtain ⟨aj,an,aJ⟩:=s.oh bO bp fU;exact ⟨aj,by rw [hold bO aq];exact an,aJ⟩
 . by_cases bQ:bR=b<;>by_cases b2:b7=b
   . exact bQ.trans b2.symm
   . subst bQ;rw [dt] at av;cases av;rw [hold b7 b2] at aK;have:=oY b7 ck aK (fun e=>by rw [e] at ab;cases ab);simp only at jx;omega
   . subst b2;rw [dt] at aK;cases aK;rw [hold bR bQ] at av;have:=oY bR cg av (fun e=>by rw [e] at U;cases U);simp only at jx;omega
   . rw [hold bR bQ] at av;rw [hold b7 b2] at aK;exact s.inj bR b7 cg ck U ab av aK jx
 . rw [hold _ (fun e=>?_)]
   . exact s.fresh i ax
   . rw [wg] at e;have:=h7 e;omega
 . have:=s.frame.size;simp only [Array.size_push,Fr.free];omega
 . have U:=s.frame.size;simp only [Fr.free,arq];rw [apu (by simp only [Fr.free] at bC;omega)];exact s.frame.block j bC
end
section
variable {P:Program}
def ey (es:List e0) (c0:bI) (i:Nat):bI:=
 match es[i]? with
 | some e=>e.r
 | none=>c0
theorem yl (e:e0) (es:List e0) (aB:ae) (i:Nat):ch (e::es) aB (i+1)=ch es aB i:=by simp [ch]
theorem zi (e:e0) (es:List e0) (c0:bI) (i:Nat):ey (e::es) c0 (i+1)=ey es c0 i:=by simp [ey]
theorem u7 {aw:Nat} {all:Array Oper} {call:dR}:∀{l:List Oper} {r c0:bI} {h aB:ae} {es:List e0},(fC P aw all l).run call r h=.ok es c0 aB->
 es.length=l.length/\ch es aB 0=h/\ey es c0 0=r/\∀j o,l[j]? =some o->∃e,es[j]? =some e/\(cB P aw all o).run call e.r e.h=.val e.v (ch es aB (j+1))/\ey es c0 (j+1)=(fI o.dst).run e.r e.v
 | [],r,c0,h,aB,es,he=>by simp only [fC,qM.ok.injEq] at he;obtain ⟨rfl,rfl,rfl⟩:=he;exact ⟨rfl,rfl,rfl,fun j o aT=>by simp at aT⟩
 | o::os,r,c0,h,aB,es,he=>by
   simp only [fC,Cw] at he;cases U:(cB P aw all o).run call r h with
   | fail=>rw [U] at he;cases he
   | cI _ _=>rw [U] at he;simp only at he;cases hm:l0 o.op<;>rw [hm] at he<;>cases he
   | val v a7=>
     rw [U] at he;simp only at he;cases ab:(fC P aw all os).run call ((fI o.dst).run r v) a7 with
     | fail=>rw [ab] at he;cases he
     | cI _ _ _ _ _=>rw [ab] at he;cases he
     | ok hE a' aI=>
       rw [ab] at he;simp only [qM.ok.injEq] at he;obtain ⟨rfl,rfl,rfl⟩:=he;obtain ⟨aj,an,aJ,bE⟩:=u7 ab;refine ⟨by simp [aj],by simp [ch],by simp [ey],fun j b_ aT=>?_⟩;cases j with
       | zero=>
         simp only [apH,apq] at aT;subst aT;exact ⟨⟨r,h,v⟩,rfl,by rw [yl,an];exact U,by rw [zi,aJ]⟩
       | succ j=>
         obtain ⟨e,cg,ck,ek⟩:=bE j b_ (by simpa using aT);exact ⟨e,by simpa using cg,by rw [yl];exact ck,by rw [zi];exact ek⟩
theorem VI {aw:Nat} {all:Array Oper} {call:dR}:∀{l:List Oper} {r c0:bI} {h aB aa:ae} {es:List e0} {v:V},(fC P aw all l).run call r h=.cI es c0 aB v aa->
 ch es aB 0=h/\ey es c0 0=r/\(∀j o,j<es.length->l[j]? =some o->∃e,es[j]? =some e/\(cB P aw all o).run call e.r e.h=.val e.v (ch es aB (j+1))/\ey es c0 (j+1)=(fI o.dst).run e.r e.v)/\
  ∃o,l[es.length]? =some o/\l0 o.op=true/\(cB P aw all o).run call c0 aB=.cI v aa
 | [],r,c0,h,aB,aa,es,v,he=>by simp [fC] at he
 | o::os,r,c0,h,aB,aa,es,v,he=>by
   simp only [fC,Cw] at he;cases U:(cB P aw all o).run call r h with
   | fail=>rw [U] at he;cases he
   | cI x ao=>
     rw [U] at he;simp only at he;cases hm:l0 o.op with
     | false=>rw [hm] at he;cases he
     | true=>
       rw [hm] at he;simp only [apt,qM.cI.injEq] at he;obtain ⟨rfl,rfl,rfl,rfl,rfl⟩:=he;exact ⟨rfl,rfl,fun j b_ bC=>by simp at bC,o,rfl,hm,U⟩
   | val x a7=>
     rw [U] at he;simp only at he;cases ab:(fC P aw all os).run call ((fI o.dst).run r x) a7 with
     | fail=>rw [ab] at he;cases he
     | ok _ _ _=>rw [ab] at he;cases he
     | cI hE a' aI v1 bq=>
       rw [ab] at he;simp only [qM.cI.injEq] at he;obtain ⟨rfl,rfl,rfl,rfl,rfl⟩:=he;obtain ⟨an,aJ,bE,c8,cO,en,hO⟩:=VI ab;refine ⟨by simp [ch],by simp [ey],fun j b_ bC aT=>?_,c8,by simpa using cO,en,hO⟩;cases j with
       | zero=>
         simp only [apH,apq] at aT;subst aT;exact ⟨⟨r,h,x⟩,rfl,by rw [yl,an];exact U,by rw [zi,aJ]⟩
       | succ j=>
         obtain ⟨e,cg,ck,ek⟩:=bE j b_ (by simpa using bC) (by simpa using aT);exact ⟨e,by simpa using cg,by rw [yl];exact ck,by rw [zi];exact ek⟩
theorem QV {aw:Nat} {d:Option Nat} (aH:eV aw d=true) {r:bI} {v:V} {t:Nat} (aE:t<=top):T.get .bad (aC t) ((fI d).run r v)=if d=some t then v else T.get .bad (aC t) r:=by
 cases d with
 | none=>simp [fI]
 | some d=>
   simp only [eV,apn,apQ,apF] at aH;simp only [fI,T.ie,apq];by_cases h:d=t
   . subst h;simp
   . rw [apu (fun e=>h (h7 e)),apu h]
theorem kB {aw:Nat} {all:Array Oper} {o:Oper} {call:dR} {r:bI} {h aa:ae} {v:V} (he:(cB P aw all o).run call r h=.val v aa):eV aw o.dst=true/\iW (b4 all o)=true:=by
 unfold cB at he;cases au:(eV aw o.dst&&iW (b4 all o)) with
 | false=>rw [au] at he;simp [dr.none] at he
 | true=>simpa using au
theorem Gw {r:bI} {rs:List Nat} (aW:iW rs=true) {t:Nat} (aE:t<=top):T.get .bad (aC t) (dp r rs)=if t ∈ rs then T.get .bad (aC t) r else .bad:=by
 induction rs with
 | nil=>simp [dp]
 | cons u rs bh=>
   simp only [iW,aqT,apn,apF] at aW;simp only [dp,T.ie,apI];by_cases h:u=t
   . subst h;simp
   . rw [apu (fun e=>h (h7 e)),bh aW.2];have aa:¬t=u:=fun e=>h e.symm;simp [aa]
theorem PX {aw:Nat} {all:Array Oper} {o:Oper} {call:dR} {r:bI} {h aa:ae} {v:V} (he:(cB P aw all o).run call r h=.cI v aa):eV aw o.dst=true/\iW (b4 all o)=true:=by
 unfold cB at he;cases au:(eV aw o.dst&&iW (b4 all o)) with
 | false=>rw [au] at he;simp [dr.none] at he
 | true=>simpa using au
def Hk (az:Fr) (E:Env) (o:Oper) (a:Act) (K:Act->World->Prop) (Q:Exit->Act->World->Prop):a_->Prop
 | .val v aa=>∀ay x w',E.le ay->Rel ay v x->ba az ay aa w'->K (a.put o.dst x) w'
 | .cI v aa=>l0 o.op=true/\∀ay x w',E.le ay->Rel ay v x->ba az ay aa w'->Q (.panic (qu x)) a w'
 | .fail=>False
theorem PY {rd:Option Nat} {az:Fr} {E:Env} {h:ae} {w:World} {call:dR} (bK:ep P) (cf:gJ P call) (dH:gV P call) {all:Array Oper} {i:Nat} {o:Oper} (ax:all[i]? =some o) {aw:Nat} {r:bI} {a:Act}
 (hi:eV aw o.dst=true/\iW (b4 all o)=true) (qd:a.tmps.size=aw) (kO:∀t ∈ b4 all o,Rel E (T.get .bad (aC t) r) (a.tmps.getD t undef)) (s:ba az E h w)
 {K:Act->World->Prop} {Q:Exit->Act->World->Prop} (ai:Hk az E o a K Q ((cB P aw all o).run call r h)):wpOpIn (cc rd) 0 P all Q i K a w:=by
 obtain ⟨aH,aW⟩:=hi
 have k:RegRel0 E aw (dp r (b4 all o)) a:=⟨qd,fun t aE=>by
  rw [Gw aW aE];by_cases hm:t ∈ b4 all o
  . rw [apB hm];exact kO t hm
  . rw [apu hm];simp [Rel]⟩
 unfold cB at ai;rw [show (eV aw o.dst&&iW (b4 all o))=true from by rw [aH,aW];rfl] at ai;simp only [apt] at ai;have wanted:Hk az E o a K Q ((fp P o).run call (dp r (b4 all o)) h)->Region.wanted o (yielded all a.tmps)=true->wpOpIn (cc rd) 0 P all Q i K a w:=by
  intro U hw;simp only [wpOpIn,ax,hw,ap0];cases aD:(fp P o).run call (dp r (b4 all o)) h with
  | fail=>rw [aD] at U;exact U.elim
  | val v aa=>rw [aD] at U;exact PL bK cf dH aD k s U
  | cI v aa=>rw [aD] at U;exact PI bK cf U.1 aD k s U.2
 have V3:Hk az E o a K Q (.val (.tuple []) h)->Region.wanted o (yielded all a.tmps)=false->wpOpIn (cc rd) 0 P all Q i K a w:=by intro U hw;simp only [wpOpIn,ax,hw,apG,ap2];exact ⟨fun _ _=>trivial,U E undef w (Env.le.refl E) (by simp only [Rel];exact ⟨#[],rfl,rfl⟩) s⟩
 cases aG:o.guard with
 | none=>
   rw [aG] at ai;exact wanted ai (by simp [Region.wanted,aG])
 | some n'=>
   obtain ⟨j,want⟩:=n';rw [aG] at ai;simp only at ai;cases bC:all[j]? with
   | none=>rw [bC] at ai;exact ai.elim
   | some g=>
     rw [bC] at ai;simp only at ai;cases iN:g.dst with
     | none=>rw [iN] at ai;exact ai.elim
     | some d=>
       rw [iN] at ai;simp only at ai;cases au:(Nat.blt d aw&&Nat.ble d top) with
       | false=>rw [au] at ai;exact ai.elim
       | true=>
         rw [au] at ai;simp only [apt,jb,oT] at ai;simp only [apn,apQ,apF] at au;obtain ⟨g1,g2⟩:=IL k bC iN au.1 au.2;cases bA:T.get .bad (aC d) (dp r (b4 all o))<;>rw [bA] at ai<;>simp only at ai<;>try (exact ai.elim)
         . rename_i b;have a8:=g1 b bA;cases ah:(bif want then b else !b) with
           | true=>
             rw [ah] at ai;simp only [apt] at ai;refine wanted ai ?_;simp only [Region.wanted,aG,a8];cases want<;>cases b<;>simp_all
           | false=>
             rw [ah] at ai;simp only [apA] at ai;refine V3 ai ?_;simp only [Region.wanted,aG,a8];cases want<;>cases b<;>simp_all
         . rename_i af;have a8:=g2 af bA;refine V3 ai ?_;simp only [Region.wanted,aG,a8];rfl
theorem q7 {rd:Option Nat} {az:Fr} {E:Env} {h aa:ae} {w:World} {call:dR} (bK:ep P) (cf:gJ P call) (dH:gV P call) {all:Array Oper} {i:Nat} {o:Oper} (ax:all[i]? =some o) {aw:Nat} {r:bI} {a:Act} {v:V}
 (he:(cB P aw all o).run call r h=.val v aa) (qd:a.tmps.size=aw) (kO:∀t ∈ b4 all o,Rel E (T.get .bad (aC t) r) (a.tmps.getD t undef)) (s:ba az E h w)
 {K:Act->World->Prop} {Q:Exit->Act->World->Prop} (dL:∀ay x w',E.le ay->Rel ay v x->ba az ay aa w'->K (a.put o.dst x) w'):wpOpIn (cc rd) 0 P all Q i K a w:=
 PY bK cf dH ax (kB he) qd kO s (by rw [he];exact dL)
theorem aa1 {rd:Option Nat} {az:Fr} {E:Env} {h aa:ae} {w:World} {call:dR} (bK:ep P) (cf:gJ P call) (dH:gV P call) {all:Array Oper} {i:Nat} {o:Oper} (ax:all[i]? =some o) {aw:Nat} {r:bI} {a:Act} {v:V}
 (he:(cB P aw all o).run call r h=.cI v aa) (hm:l0 o.op=true) (qd:a.tmps.size=aw) (kO:∀t ∈ b4 all o,Rel E (T.get .bad (aC t) r) (a.tmps.getD t undef)) (s:ba az E h w)
 {K:Act->World->Prop} {Q:Exit->Act->World->Prop} (cw:∀ay x w',E.le ay->Rel ay v x->ba az ay aa w'->Q (.panic (qu x)) a w'):wpOpIn (cc rd) 0 P all Q i K a w:=
 PY bK cf dH ax (PX he) qd kO s (by rw [he];exact ⟨hm,cw⟩)
theorem vR {aw:Nat} {all:Array Oper} {o:Oper} {call:dR} {r:bI} {h aa:ae} {v:V} (aq:e4 P o.op=false) (he:(cB P aw all o).run call r h=.val v aa):
 aa=h/\(looks o.op=false->∀H,(cB P aw all o).run call r H=.val v H):=by
 obtain ⟨aH,aW⟩:=kB he;have c4:(eV aw o.dst&&iW (b4 all o))=true:=by rw [aH,aW];rfl
 have key:cB P aw all o=(match o.guard with
  | none=>⟨jb none (fp P o) (b4 all o)⟩
  | some (j,want)=>match all[j]? with
    | some g=>match g.dst with
      | some d=>bif Nat.blt d aw&&Nat.ble d top then ⟨jb (some (oT (aC d),want)) (fp P o) (b4 all o)⟩ else dr.none
      | none=>dr.none
    | none=>dr.none):=by
  unfold cB;rw [c4];rfl
 rw [key] at he ⊢;cases aG:o.guard with
 | none=>
   rw [aG] at he;exact ⟨PK aq he,fun ar H=>PJ aq ar he H⟩
 | some n'=>
   obtain ⟨j,want⟩:=n';rw [aG] at he;simp only at he ⊢;cases bC:all[j]? with
   | none=>rw [bC] at he;simp [dr.none] at he
   | some g=>
     rw [bC] at he;simp only at he ⊢;cases iN:g.dst with
     | none=>rw [iN] at he;simp [dr.none] at he
     | some d=>
       rw [iN] at he;simp only at he ⊢;cases au:(Nat.blt d aw&&Nat.ble d top) with
       | false=>rw [au] at he;simp [dr.none] at he
       | true=>
         rw [au] at he;simp only [apt,jb] at he ⊢;cases bA:(oT (aC d)).run (dp r (b4 all o))<;>rw [bA] at he<;>simp only at he ⊢<;>try (cases he;done)
         . rename_i b;cases ah:(bif want then b else !b)<;>rw [ah] at he<;>simp only [apt,apA] at he ⊢
           . simp only [a_.val.injEq] at he ⊢;exact ⟨he.2.symm,fun _ H=>⟨he.1,trivial⟩⟩
           . exact ⟨PK aq he,fun ar H=>PJ aq ar he H⟩
         . simp only [a_.val.injEq] at he ⊢;exact ⟨he.2.symm,fun _ H=>⟨he.1,trivial⟩⟩
theorem Nc {op:dr} {call:dR} {es:List e0} {aB:ae} {r:bI} {v:V}:∀{bl:List Nat},Dq op call es aB r v bl=true->∀s ∈ bl,∃aa,op.run call r (ch es aB s)=.val v aa
 | [],_,s,h=>by simp at h
 | gy::bl,he,s,hm=>by
   simp only [Dq,apn] at he;simp only [apI] at hm;rcases hm with rfl | hm
   . have U:=he.1;cases aD:op.run call r (ch es aB s) with
     | fail=>rw [aD] at U;cases U
     | cI _ _=>rw [aD] at U;cases U
     | val b1 aa=>
       rw [aD] at U;rw [Iv U];exact ⟨aa,rfl⟩
   . exact Nc he.2 s hm
theorem HC {aw:Nat} {all:Array Oper} {dX aF eC:List Nat} {call:dR} {es:List e0} {aB:ae}:∀{l:List Oper} {i:Nat},(so P aw all dX aF eC i l).run call es aB=true->
 ∀j o,l[j]? =some o->looks o.op=true->e4 P o.op=false->∀e,es[posOf aF (i+j)]? =some e->∀s ∈ eC,s6 P dX all.toList aF (i+j) ((dX[i+j]?).getD 0) s=true->∃aa,(cB P aw all o).run call e.r (ch es aB s)=.val e.v aa
 | [],_,_,j,o,aT,_,_=>by simp at aT
 | b_::os,i,he,j,o,aT,ar,aq=>by
   simp only [so] at he;cases j with
   | zero=>
     simp only [apH,apq] at aT;subst aT;rw [ar,aq] at he;simp only [Bool.not_false,aqn,apt,apn,Nd] at he;have U:=he.1;intro e rk s aW hm
     . rw [aqH] at rk;rw [rk] at U;exact Nc U s (aq7.2 ⟨aW,by simpa using hm⟩)
   | succ j=>
     have rest:(so P aw all dX aF eC (i+1) os).run call es aB=true:=by
      cases au:(looks b_.op&&!e4 P b_.op) with
      | false=>rw [au] at he;exact he
      | true=>rw [au] at he;simp only [apt,apn] at he;exact he.2
     have:=HC rest j o (by simpa using aT) ar aq;rw [show i + (j+1)=i+1+j from by omega];exact this
theorem yR {aF:List Nat}:∀{l:List Oper} {i j:Nat} {o:Oper},l[j]? =some o->ej P o=true->posOf aF (i+j) ∈ hL P aF i l
 | [],_,j,o,h,_=>by simp at h
 | b_::os,i,j,o,h,he=>by
   simp only [hL];cases j with
   | zero=>
     simp only [apH,apq] at h;subst h;rw [he];simp
   | succ j=>
     have:=yR (aF:=aF) (i:=i+1) (by simpa using h) he;rw [show i + (j+1)=i+1+j from by omega];cases ej P b_ with
     | true=>simp [this]
     | false=>exact this
theorem Fe {aF:List Nat}:∀{l:List Oper} {i:Nat},i+l.length ∈ hL P aF i l
 | [],_=>by simp [hL]
 | o::os,i=>by
   have:=Fe (aF:=aF) (l:=os) (i:=i+1);simp only [hL,apz];rw [show i + (os.length+1)=i+1+os.length from by omega];cases ej P o with
   | true=>simp [this]
   | false=>exact this
theorem uL {aF:List Nat}:∀{l:List Oper} {i s:Nat},s ∈ hL P aF i l->s=i+l.length\/∃j o,l[j]? =some o/\ej P o=true/\s=posOf aF (i+j)
 | [],i,s,h=>by simp only [hL,aqa] at h;exact .inl (by simpa using h)
 | o::os,i,s,h=>by
   simp only [hL] at h;have rest:s ∈ hL P aF (i+1) os->s=i + (o::os).length\/∃j b_,(o::os)[j]? =some b_/\ej P b_=true/\s=posOf aF (i+j):=by
    intro h;rcases uL h with h | ⟨j,b_,U,ab,aI⟩
    . exact .inl (by simp only [apz];omega)
    . exact .inr ⟨j+1,b_,by simpa using U,ab,by rw [aI];congr 1;omega⟩
   cases au:ej P o with
   | true=>
     rw [au] at h;simp only [apt,apI] at h;rcases h with h | h
     . exact .inr ⟨0,o,rfl,au,h⟩
     . exact rest h
   | false=>rw [au] at h;exact rest h
theorem aav {c:Bool} {f:V->V->ae->a_} {x y v:V} {h aa:ae} (he:(bif c then (⟨f⟩:zJ) else ⟨fun _ _ _=>.fail⟩).run x y h=.val v aa):c=true/\f x y h=.val v aa:=by
 cases c with
 | true=>exact ⟨rfl,he⟩
 | false=>cases he
theorem aaD {o:Oper} {call:dR} {r:bI} {h aa:ae} {v:V} (bw:gD o=true) (he:(fp P o).run call r h=.val v aa):∃k,aa=h.new k/\True:=by
 have cells:∀{af:List V} {U:ae},gk h af=some U->∃k,U=h.new k/\True:=by intro af U he;unfold gk at he;obtain ⟨au,he⟩:=eJ he;cases he;exact ⟨_,rfl,trivial⟩
 obtain ⟨dst,op,type,pos,after,guard⟩:=o;cases op<;>simp only [gD] at bw<;>try (cases bw;done)
 all_goals simp only [fp] at he
 case alloc t=>
  cases aE:bc P t with
  | none=>rw [aE] at he;simp [dr.none] at he
  | some aP=>
    rw [aE] at he;simp only at he;cases bm:aP.zero with
    | none=>rw [bm] at he;simp [dr.none] at he
    | some z=>
      rw [bm] at he;simp only at he;cases aV:gk h z.cells with
      | none=>rw [aV] at he;cases he
      | some U=>
        rw [aV] at he;simp only [gT,a_.val.injEq] at he;obtain ⟨_,rfl⟩:=he;exact cells aV
 case box t x=>
  obtain ⟨aG,he⟩:=j9 he;cases aV:gk h ((bV x).run r).cells with
  | none=>rw [aV] at he;cases he
  | some U=>
    rw [aV] at he;simp only [gT,a_.val.injEq] at he;obtain ⟨_,rfl⟩:=he;exact cells aV
 case buildSlice t n bn=>
  unfold vN at he;cases aE:bc P t with
  | none=>rw [aE] at he;cases he
  | some aP=>
    rw [aE] at he;simp only at he;cases bX:aP.bj<;>rw [bX] at he<;>simp only at he<;>try (cases he;done)
    rename_i e;cases cp:bc P e with
    | none=>rw [cp] at he;cases he
    | some bf=>
      rw [cp] at he;simp only at he;cases bm:bf.zero with
      | none=>rw [bm] at he;cases he
      | some z=>
        rw [bm] at he;simp only at he;cases au:(Nat.ble (n * bf.size) 1000000&&Nat.beq z.cells.length bf.size) with
        | false=>rw [au] at he;cases he
        | true=>
          rw [au] at he;simp only [apt] at he;cases aB:mY (fun i=>some (i * bf.size,bf.size)) (iH z.cells n) ((uV bn.toList).run r) with
          | none=>rw [aB] at he;cases he
          | some cs=>
            rw [aB] at he;simp only at he;cases aV:gk h cs with
            | none=>rw [aV] at he;cases he
            | some U=>
              rw [aV] at he;simp only [a_.val.injEq] at he;obtain ⟨_,rfl⟩:=he;exact cells aV
 case makeSlice t l c=>
  unfold wU at he
  split at he
  rotate_left
  . cases he
  split at he
  rotate_left
  . cases he
  split at he
  rotate_left
  . cases he
  split at he
  rotate_left
  . cases he
  obtain ⟨_,he⟩:=aav he;simp only [uM] at he;obtain ⟨_,_,_,he⟩:=tc he;obtain ⟨_,_,_,he⟩:=tc he;obtain ⟨_,he⟩:=j9 he
  split at he
  . rename_i aV;simp only [a_.val.injEq] at he;obtain ⟨_,rfl⟩:=he;exact cells aV
  . cases he
 case makeMap t x=>
  cases x with
  | some _=>cases bw
  | none=>
    simp only [rL,yX] at he;cases aE:bc P t with
    | none=>rw [aE] at he;cases he
    | some aP=>
      rw [aE] at he;simp only at he;cases ah:Nat.beq (e_ aP.bj) 3 with
      | false=>rw [ah] at he;cases he
      | true=>
        rw [ah] at he;simp only [apt,rG,s8] at he;simp only [a_.val.injEq] at he;exact ⟨_,he.2.symm,trivial⟩
theorem afv {o:Oper} (bw:gD o=true):e4 P o.op=true:=by obtain ⟨dst,op,type,pos,after,guard⟩:=o;cases op<;>simp only [gD] at bw<;>first | (cases bw;done) | rfl
theorem P0 {aw:Nat} {all:Array Oper} {o:Oper} {call:dR} {r:bI} {h aa:ae} {v:V} (he:(cB P aw all o).run call r h=.val v aa):
 ((fp P o).run call (dp r (b4 all o)) h=.val v aa/\∀E a,RegRel0 E aw (dp r (b4 all o)) a->Region.wanted o (yielded all a.tmps)=true)\/
 (aa=h/\∀H,(cB P aw all o).run call r H=.val v H):=by
 obtain ⟨aH,aW⟩:=kB he;have c4:(eV aw o.dst&&iW (b4 all o))=true:=by rw [aH,aW];rfl
 have key:cB P aw all o=(match o.guard with
  | none=>⟨jb none (fp P o) (b4 all o)⟩
  | some (j,want)=>match all[j]? with
    | some g=>match g.dst with
      | some d=>bif Nat.blt d aw&&Nat.ble d top then ⟨jb (some (oT (aC d),want)) (fp P o) (b4 all o)⟩ else dr.none
      | none=>dr.none
    | none=>dr.none):=by
  unfold cB;rw [c4];rfl
 rw [key] at he ⊢;cases aG:o.guard with
 | none=>
   rw [aG] at he;exact .inl ⟨he,fun E a _=>by simp [Region.wanted,aG]⟩
 | some n'=>
   obtain ⟨j,want⟩:=n';rw [aG] at he;simp only at he ⊢;cases bC:all[j]? with
   | none=>rw [bC] at he;simp [dr.none] at he
   | some g=>
     rw [bC] at he;simp only at he ⊢;cases iN:g.dst with
     | none=>rw [iN] at he;simp [dr.none] at he
     | some d=>
       rw [iN] at he;simp only at he ⊢;cases au:(Nat.blt d aw&&Nat.ble d top) with
       | false=>rw [au] at he;simp [dr.none] at he
       | true=>
         rw [au] at he;simp only [apt,jb] at he ⊢;have p0:=au;simp only [apn,apQ,apF] at p0;cases bA:(oT (aC d)).run (dp r (b4 all o))<;>rw [bA] at he<;>simp only at he ⊢<;>try (cases he;done)
         . rename_i b;cases ah:(bif want then b else !b)<;>rw [ah] at he<;>simp only [apt,apA] at he ⊢
           . simp only [a_.val.injEq] at he ⊢;exact .inr ⟨he.2.symm,fun H=>⟨he.1,trivial⟩⟩
           . refine .inl ⟨he,fun E a k=>?_⟩;obtain ⟨g1,_⟩:=IL k bC iN p0.1 p0.2;have a8:=g1 b bA;simp only [Region.wanted,aG,a8];cases want<;>cases b<;>simp_all
         . simp only [a_.val.injEq] at he ⊢;exact .inr ⟨he.2.symm,fun H=>⟨he.1,trivial⟩⟩
theorem PZ {aw:Nat} {all:Array Oper} {o:Oper} {call:dR} {r:bI} {h aa:ae} {v:V} (bw:gD o=true) (he:(cB P aw all o).run call r h=.val v aa):
 (∃k,aa=h.new k/\True)\/(aa=h/\∀H,(cB P aw all o).run call r H=.val v H):=by
 rcases P0 he with ⟨U,_⟩ | U
 . exact .inl (aaD bw U)
 . exact .inr U
theorem aaZ {rd:Option Nat} {F:Fr} {E:Env} {h aa H:ae} {w:World} {call:dR} {all:Array Oper} {i:Nat} {o:Oper} (ax:all[i]? =some o) (bw:gD o=true) {aw:Nat} {r:bI} {a:Act} {v:V}
 (he:(cB P aw all o).run call r h=.val v aa) (qd:a.tmps.size=aw) (kO:∀t ∈ b4 all o,Rel E (T.get .bad (aC t) r) (a.tmps.getD t undef)) (s:ba F E H w)
 (JF:aa.next≠h.next) (ai:F.ht (aC h.next)=some (aa.get (aC h.next)))
 {K:Act->World->Prop} {Q:Exit->Act->World->Prop} (dL:∀ay x w',E.le ay->Rel ay v x->ba (F.free (aC h.next)) ay H w'->K (a.put o.dst x) w'):wpOpIn (cc rd) 0 P all Q i K a w:=by
 obtain ⟨aH,aW⟩:=kB he
 have k:RegRel0 E aw (dp r (b4 all o)) a:=⟨qd,fun t aE=>by
  rw [Gw aW aE];by_cases hm:t ∈ b4 all o
  . rw [apB hm];exact kO t hm
  . rw [apu hm];simp [Rel]⟩
 obtain ⟨eE,hw⟩:(fp P o).run call (dp r (b4 all o)) h=.val v aa/\Region.wanted o (yielded all a.tmps)=true:=by
  rcases P0 he with ⟨U,ab⟩ | ⟨U,_⟩
  . exact ⟨U,ab E a k⟩
  . exact absurd (by rw [U]) JF
 obtain ⟨m,ao,cY,aj,an,aJ⟩:=aaC bw eE k;simp only [wpOpIn,ax,hw,ap0];obtain ⟨X,cM,cg,ck⟩:=aJ w;rw [aj,ae.iz,apB rfl] at ai;have dt:E.put (aC h.next) ⟨w.heap.size,0,0⟩ (aC h.next)=some ⟨w.heap.size,0,0⟩:=by unfold Env.put;rw [apB rfl]
 have hle:E.le (E.put (aC h.next) ⟨w.heap.size,0,0⟩):=Env.mC (s.oh _ _ ai).2.1;obtain ⟨a',cG⟩:=ck _ hle dt;have cn:F.w.heap.size<=w.heap.size:=s.frame.size;obtain ⟨_,hW⟩:=s.link ai (o:=cM) (cG _ cn);refine ⟨fun _ _=>trivial,?_⟩;rw [qC (by intro c h;have:=bw;unfold gD at this;rw [h] at this;cases this),ao,Sem.run_bind,cg];exact dL _ X _ hle a' hW
end
end
end Go.Proofs.YtgmhjhgoamjeeaaGreatDoor.aZ
