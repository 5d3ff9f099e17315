/- The abstract machine and its walks (a verified interpreter of the model's code: plain definitions and lemmas, no condition). Printed by a program from longer texts: names made short. -/
import Derived.Test.YtahfljfikfkpnaaGreatDoorM1
import Derived.RangeFuncLeaves
import Derived.RecoverIn
import Derived.OrdersIn
set_option linter.unusedSectionVars false
set_option linter.unusedSimpArgs false
set_option linter.unusedVariables false
set_option maxHeartbeats 64000000
noncomputable section
namespace Go.Proofs.YtahfljfikfkpnaaGreatDoor.ba
section
open Go Go.RowKit
variable [Lay]
section
variable {P:Program}
theorem Js {E:Env} {bw:TypeDesc} {k b0:V} {K lS:Value} {b:Bool} (he:(nI bw).run k b0=some b) (au:Rel E k K) (bl:Rel E b0 lS):
 Instr.sameNow bw K lS=some b/\(b=true->lS=K/\∀n,Instr.sameBits n K K=true):=by
 cases bw<;>simp only [nI] at he<;>try (simp [fy.none] at he;done)
 case bool=>
  simp only [sb] at he;cases k<;>simp only at he<;>try (cases he;done)
  cases b0<;>simp only at he<;>try (cases he;done)
  simp only [Rel] at au bl;subst au bl;simp only [aoC] at he;subst he;refine ⟨rfl,fun h=>?_⟩;rw [apZ] at h;subst h;exact ⟨rfl,fun n=>by cases n<;>simp [Instr.sameBits]⟩
 case int hQ=>
  simp only [oV] at he;obtain ⟨j,m,rfl,ad⟩:=lF he;clear he;obtain ⟨QS,dx,rfl,ag⟩:=lF ad;clear ad;obtain ⟨aD,h⟩:=fT ag;clear ag;have:=yS aD;subst this;simp only [Rel] at au bl;subst au bl;simp only [aoC,q9] at h;subst h;refine ⟨by simp [Instr.sameNow],fun h=>?_⟩;rw [apZ] at h;subst h;exact ⟨rfl,fun n=>by cases n<;>simp [Instr.sameBits]⟩
 case string=>
  simp only [wK] at he;cases k<;>simp only at he<;>try (cases he;done)
  cases b0<;>simp only at he<;>try (cases he;done)
  simp only [Rel] at au bl;subst au bl;simp only [aoC,yF] at he;subst he;refine ⟨by simp only [Instr.sameNow,bytes_beq],fun h=>?_⟩;rw [apZ] at h;subst h;exact ⟨rfl,fun n=>by cases n<;>simp [Instr.sameBits,bytes_beq]⟩
theorem run_checkKey {bw:TypeDesc} (aE:nh bw=true) {t:TypeId} {w:World} (hu:(underlying t).run P w=.ok bw w) (b:Bool) (v:Value):(Instr.checkKey b 10000 t v).run P w=.ok () w:=by
 show (Instr.checkKey b (9999+1) t v).run P w=.ok () w;unfold Instr.checkKey;rw [Sem.run_bind,hu];cases bw<;>simp only [nh] at aE<;>first
  | (cases aE;done)
  | rfl
theorem run_findKey {bw:TypeDesc} {t:TypeId} {w:World} (hu:(underlying t).run P w=.ok bw w) {K:Value} {l:List MapEntry} {R:Option (Nat × Value)} (h:Instr.findNow bw K l 0=some R):
 (Instr.findKey t K l).run P w=.ok R w:=by
 simp only [Instr.findKey,Sem.run_bind,hu,Result.andThen_ok,h,Sem.run_pure]
theorem Pq {E:Env} {bw:TypeDesc} {k:V} {K:Value} (aD:Rel E k K):∀(es:List fv) (l:List MapEntry) (r:Option V) (i:Nat),qm (nI bw) k es=some r->gi E es l->
 ∃R,Instr.findNow bw K l i=some R/\(match r with
  | none=>R=none
  | some v=>∃j Y,R=some (j,Y)/\Rel E v Y)
 | [],l,r,i,h,U=>by simp only [gi] at U;subst U;simp only [qm,aoC] at h;subst h;exact ⟨none,rfl,rfl⟩
 | m::ms,l,r,i,h,U=>by
   obtain ⟨e,es,rfl,ad,ag,ar,aT⟩:=U;simp only [qm] at h;cases al:(nI bw).run k m.k with
   | none=>rw [al] at h;cases h
   | some b=>
     rw [al] at h;simp only at h;obtain ⟨an,av⟩:=Js al aD ad;cases b with
     | true=>
       simp only [aoJ,aoC] at h;subst h;exact ⟨some (i,e.val),by simp only [Instr.findNow,an],i,e.val,rfl,ag⟩
     | false=>
       simp only [aoP] at h;obtain ⟨R,g1,g2⟩:=Pq aD ms es r (i+1) h aT;exact ⟨R,by simp only [Instr.findNow,an,g1],g2⟩
theorem Sr {E:Env} {bw:TypeDesc} {k v:V} {K X:Value} (aD:Rel E k K) (bZ:Rel E v X) (clock:Nat):∀(es:List fv) (l:List MapEntry) (r:List fv × Bool) (i:Nat),pj (nI bw) k v clock es=some r->gi E es l->
 (r.2=true->Instr.findNow bw K l i=some none/\gi E r.1 (l++[⟨K,X,clock⟩]))/\
 (r.2=false->∃j e Y,Instr.findNow bw K l i=some (some (i+j,Y))/\l[j]? =some e/\Instr.sameBits 10000 e.key K=true/\gi E r.1 (l.modify j fun e=>{e with key:=K,val:=X}))
 | [],l,r,i,h,U=>by simp only [gi] at U;subst U;simp only [pj,aoC] at h;subst h;exact ⟨fun _=>⟨rfl,_,_,rfl,aD,bZ,rfl,rfl⟩,fun h=>by cases h⟩
 | m::ms,l,r,i,h,U=>by
   obtain ⟨e,es,rfl,ad,ag,ar,aT⟩:=U;simp only [pj] at h;cases al:(nI bw).run k m.k with
   | none=>rw [al] at h;cases h
   | some b=>
     rw [al] at h;simp only at h;obtain ⟨an,av⟩:=Js al aD ad;cases b with
     | true=>
       simp only [aoJ,aoC] at h;subst h;obtain ⟨aB,bt⟩:=av rfl;refine ⟨fun h=>(by cases h),fun _=>⟨0,e,e.val,by simp only [Instr.findNow,an,apO],rfl,by rw [aB];exact bt _,?_⟩⟩;exact ⟨_,es,rfl,aD,bZ,ar,aT⟩
     | false=>
       simp only [aoP] at h;cases aF:pj (nI bw) k v clock ms with
       | none=>rw [aF] at h;cases h
       | some bq=>
         rw [aF] at h;simp only [aoC] at h;subst h;obtain ⟨g1,g2⟩:=Sr aD bZ clock ms es bq (i+1) aF aT;refine ⟨fun h=>?_,fun h=>?_⟩
         . obtain ⟨cN,a2⟩:=g1 h;exact ⟨by simp only [Instr.findNow,an,cN],⟨e,es++[⟨K,X,clock⟩],rfl,ad,ag,ar,a2⟩⟩
         . obtain ⟨j,fi,Y,cN,a2,a3,a4⟩:=g2 h;exact ⟨j+1,fi,Y,by simp only [Instr.findNow,an,cN];congr 3;omega,by simpa using a2,a3,e,_,rfl,ad,ag,ar,a4⟩
theorem JF {aA:Fr} {E:Env} {h:ah} {w:World} (s:bD aA E h w) {x:V} {X:Value} {es:List fv} (he:vz h x=some es) (au:Rel E x X):
 (X=.map none/\es=[])\/∃r a clock,X=.map (some r)/\(getObj r).run P w=.ok (.map a clock) w/\gi E es a.toList:=by
 cases x<;>simp only [vz] at he<;>try (cases he;done)
 . simp only [Rel] at au;exact .inl ⟨au,by simpa using he.symm⟩
 . rename_i b;simp only [Rel] at au;obtain ⟨p,aF,rfl⟩:=au;have ai:=s.at aF;cases ay:h.get b<;>rw [ay] at he<;>simp only [c_.nN] at he<;>try (cases he;done)
   simp only [aoC] at he;subst he;rw [ay] at ai;obtain ⟨q,a,ad,_,ar,aT⟩:=ai;rw [aF] at ad;cases ad;exact .inr ⟨p.bp,a,_,rfl,by simp only [getObj,Sem.run,ar];rfl,aT⟩
theorem Pn {bw:TypeDesc} {K:Value}:∀{l:List MapEntry} {i:Nat},(∀e ∈ l,Instr.sameNow bw K e.key=some false)->Instr.findNow bw K l i=some none
 | [],_,_=>rfl
 | e::es,i,h=>by simp only [Instr.findNow,h e (by simp)];exact Pn fun fi gT=>h fi (by simp [gT])
theorem Po {bw:TypeDesc} {K:Value}:∀{l:List MapEntry} {i:Nat},(∀e ∈ l,∃b,Instr.sameNow bw K e.key=some b)->(∃e ∈ l,Instr.sameNow bw K e.key=some true)->
 ∃j,∃e ∈ l,Instr.sameNow bw K e.key=some true/\Instr.findNow bw K l i=some (some (j,e.val))
 | [],_,_,h=>by obtain ⟨e,he,_⟩:=h;simp at he
 | e::es,i,ad,ag=>by
   obtain ⟨b,ai⟩:=ad e (by simp);cases b with
   | true=>exact ⟨i,e,by simp,ai,by simp only [Instr.findNow,ai]⟩
   | false=>
     obtain ⟨fi,gT,az⟩:=ag;simp only [ao7] at gT;rcases gT with rfl | gT
     . rw [ai] at az;cases az
     . obtain ⟨j,bs,an,av,aB⟩:=Po (i:=i+1) (fun x au=>ad x (by simp [au])) ⟨fi,gT,az⟩;exact ⟨j,bs,by simp [an],av,by simp only [Instr.findNow,ai,aB]⟩
theorem Pp {E:Env} {bw:TypeDesc} {k:V} {K:Value} (aD:Rel E k K):∀(es:List fv) (l:List MapEntry) (r:Option V),tn (nI bw) k es=some r->s6 E es l->
 (∀e ∈ l,∃b,Instr.sameNow bw K e.key=some b)/\(match r with
  | none=>∀e ∈ l,Instr.sameNow bw K e.key=some false
  | some v=>(∃e ∈ l,Instr.sameNow bw K e.key=some true)/\∀e ∈ l,Instr.sameNow bw K e.key=some true->Rel E v e.val)
 | [],l,r,h,U=>by simp only [s6] at U;subst U;simp only [tn,aoC] at h;subst h;exact ⟨fun e he=>by simp at he,fun e he=>by simp at he⟩
 | m::ms,l,r,h,U=>by
   obtain ⟨e,es,rfl,ad,ag,aT⟩:=U;simp only [tn] at h;cases aE:tn (nI bw) k ms with
   | none=>rw [aE] at h;cases h
   | some bq=>
     rw [aE] at h;simp only at h;obtain ⟨g1,g2⟩:=Pp aD ms es bq aE aT;cases al:(nI bw).run k m.k with
     | none=>rw [al] at h;cases h
     | some b=>
       rw [al] at h;simp only at h;obtain ⟨an,_⟩:=Js al aD ad;have Il:∀fi ∈ e::es,∃b,Instr.sameNow bw K fi.key=some b:=by
        intro fi gT;rcases ao7.1 gT with rfl | gT
        . exact ⟨b,an⟩
        . exact g1 fi gT
       refine ⟨Il,?_⟩;cases b with
       | true=>
         simp only [aoJ] at h;cases bq with
         | some _=>cases h
         | none=>
           simp only [aoC] at h;subst h;refine ⟨⟨e,by simp,an⟩,fun fi gT az=>?_⟩;rcases ao7.1 gT with rfl | gT
           . exact ag
           . have:=g2 fi gT;rw [az] at this;cases this
       | false=>
         simp only [aoP,aoC] at h;subst h;cases bq with
         | none=>
           intro fi gT;rcases ao7.1 gT with rfl | gT
           . exact an
           . exact g2 fi gT
         | some v=>
           obtain ⟨⟨ej,e1,fH⟩,y3⟩:=g2;refine ⟨⟨ej,by simp [e1],fH⟩,fun fi gT az=>?_⟩;rcases ao7.1 gT with rfl | gT
           . rw [an] at az;cases az
           . exact y3 fi gT az
theorem aa9 {E:Env} {bw:TypeDesc} {k:V} {K:Value} (aD:Rel E k K) {es:List fv} {l a:List MapEntry} {r:Option V} (h:tn (nI bw) k es=some r) (U:s6 E es l) (aF:l.Perm a):
 ∃R,Instr.findNow bw K a 0=some R/\(match r with
  | none=>R=none
  | some v=>∃j Y,R=some (j,Y)/\Rel E v Y):=by
 obtain ⟨ad,ag⟩:=Pp aD es l r h U;have hm:∀e,e ∈ a↔e ∈ l:=fun e=>aF.mem_iff.symm;cases r with
 | none=>exact ⟨none,Pn fun e he=>ag e ((hm e).1 he),rfl⟩
 | some v=>
   obtain ⟨⟨ej,e1,fH⟩,y3⟩:=ag;obtain ⟨j,e,an,av,aB⟩:=Po (i:=0) (fun e he=>ad e ((hm e).1 he)) ⟨ej,(hm ej).2 e1,fH⟩;exact ⟨_,aB,j,e.val,rfl,y3 e ((hm e).1 an) av⟩
theorem agU {e:fy} {z:V} {ok:Bool} {h:ah} {x k v:V} (he:rG e z ok h x k=some v):
 pY e z ok h x k=some v\/∃b es r,x=.map b/\h.get b=.l6 es/\tn e k es=some r/\v=(match r with
  | some u=>bif ok then .tuple [u,.bool true] else u
  | none=>bif ok then .tuple [z,.bool false] else z):=by
 unfold rG at he;cases x<;>simp only at he<;>try (exact .inl he)
 rename_i b;cases ay:h.get b<;>rw [ay] at he<;>simp only at he<;>try (exact .inl he)
 rename_i es;cases aE:tn e k es with
 | none=>rw [aE] at he;cases he
 | some r=>
   rw [aE] at he;refine .inr ⟨b,es,r,rfl,ay,aE,?_⟩;cases r<;>simp only [aoC] at he<;>exact he.symm
theorem agT {aA:Fr} {E:Env} {h:ah} {w:World} (s:bD aA E h w) {t:TypeId} {ok:Bool} {x k v:V} {X K:Value} (au:Rel E x X) (aD:Rel E k K) (he:(E6 P t ok).run h x k=some v):
 ∃Z,(Instr.lookup t X K ok).run P w=.ok Z w/\Rel E v Z:=by
 unfold E6 at he;cases az:bf P t with
 | none=>rw [az] at he;cases he
 | some aS=>
   rw [az] at he;simp only at he;have hu:=ha az w;cases cC:aS.bw<;>rw [cC] at he<;>simp only at he<;>try (cases he;done)
   rename_i ek mS;rw [cC] at hu;cases tB:bf P ek with
   | none=>rw [tB] at he;cases he
   | some i_=>
     rw [tB] at he;simp only at he;cases het:bf P mS with
     | none=>rw [het] at he;cases he
     | some bo=>
       rw [het] at he;simp only at he;cases bN:bo.zero with
       | none=>rw [bN] at he;cases he
       | some z=>
         rw [bN] at he;simp only at he;cases aE:nh i_.bw with
         | false=>
           rw [aE] at he;simp only [aoP] at he;have BE:∃e,Av P w E ek e K/\pY e z ok h x k=some v:=by
            cases ry:kO P ek with
            | true=>
              rw [ry] at he;exact ⟨_,GV s ry K,he⟩
            | false=>
              rw [ry] at he;simp only [aoP] at he;cases eJ:nW P ek with
              | false=>rw [eJ] at he;cases he
              | true=>
                rw [eJ] at he;simp only [aoJ] at he;obtain ⟨ay,he⟩:=fT he;exact ⟨_,GW eJ ay aD,he⟩
           clear he;obtain ⟨e,ask,he⟩:=BE;obtain ⟨v7,o',oq,_⟩:=Aa (P:=P) het bN E w;simp only [pY] at he;cases hm:vz h x with
           | none=>rw [hm] at he;cases he
           | some es=>
             rw [hm] at he;simp only at he;cases sk:qm e k es with
             | none=>rw [sk] at he;cases he
             | some r=>
               rw [sk] at he;simp only at he;have main:∀(l:List MapEntry),gi E es l->∃R,(Instr.findKey ek K l).run P w=.ok R w/\
                ((R=none/\Rel E v (if ok=true then .tuple #[v7,.bool false] else v7))\/∃j Y,R=some (j,Y)/\Rel E v (if ok=true then .tuple #[Y,.bool true] else Y)):=by
                intro l aG;obtain ⟨R,g1,g2⟩:=Pl ask.eq aD es l r 0 sk aG;refine ⟨R,ask.find g1,?_⟩;cases r with
                | none=>
                  simp only at g2 he;refine .inl ⟨g2,?_⟩;simp only [aoC] at he;subst he;cases ok
                  . exact oq
                  . simp only [aoJ,aoM,Rel,bH];exact ⟨_,rfl,_,_,rfl,oq,_,_,rfl,rfl,rfl⟩
                | some u=>
                  simp only at g2 he;obtain ⟨j,Y,c1,g_⟩:=g2;refine .inr ⟨j,Y,c1,?_⟩;simp only [aoC] at he;subst he;cases ok
                  . exact g_
                  . simp only [aoJ,aoM,Rel,bH];exact ⟨_,rfl,_,_,rfl,g_,_,_,rfl,rfl,rfl⟩
               rcases JF (P:=P) s hm au with ⟨rfl,rfl⟩ | ⟨aW,a,clock,rfl,f_,BW⟩
               . obtain ⟨R,g1,g2⟩:=main [] rfl;have l0:=ask.check true;rcases g2 with ⟨rfl,g3⟩ | ⟨j,Y,rfl,g3⟩
                 all_goals
                  refine ⟨_,?_,g3⟩;simp only [Instr.lookup,Sem.run_bind,hu,Result.andThen_ok,Sem.run_pure];have aO:(#[]:Array MapEntry).isEmpty=true:=rfl;rw [aO,l0,Result.andThen_ok,g1,Result.andThen_ok];simp only [Sem.run_bind,o',Result.andThen_ok,Sem.run_pure]
               . obtain ⟨R,g1,g2⟩:=main a.toList BW;have l0:=ask.check a.isEmpty;rcases g2 with ⟨rfl,g3⟩ | ⟨j,Y,rfl,g3⟩
                 all_goals
                  refine ⟨_,?_,g3⟩;simp only [Instr.lookup,Sem.run_bind,hu,Result.andThen_ok,Sem.run_pure,f_];rw [l0,Result.andThen_ok,g1,Result.andThen_ok];simp only [Sem.run_bind,o',Result.andThen_ok,Sem.run_pure]
         | true=>
           rw [aE] at he;simp only [aoJ] at he;obtain ⟨v7,o',oq,_⟩:=Aa (P:=P) het bN E w;have o7:=ha tB w;rcases agU he with he | ⟨b,es,r,rfl,ay,acF,rfl⟩
           case inr=>
            simp only [Rel] at au;obtain ⟨p,aF,rfl⟩:=au;have ai:=s.at aF;rw [ay] at ai;obtain ⟨p',a,c,l,m_,_,bP,EK,adO⟩:=ai;rw [aF] at m_;cases m_;obtain ⟨R,g1,g2⟩:=aa9 aD acF EK adO;have f_:(getObj p.bp).run P w=.ok (.map a c) w:=by simp only [getObj,Sem.run,bP]
            have l0:=run_checkKey (P:=P) aE o7 a.isEmpty K;have Ec:=run_findKey o7 g1;cases r with
            | none=>
              simp only at g2;subst g2;refine ⟨if ok=true then .tuple #[v7,.bool false] else v7,?_,?_⟩
              . simp only [Instr.lookup,Sem.run_bind,hu,Result.andThen_ok,Sem.run_pure,f_];rw [l0,Result.andThen_ok,Ec,Result.andThen_ok];simp only [Sem.run_bind,o',Result.andThen_ok,Sem.run_pure]
              . cases ok
                . exact oq
                . simp only [aoJ,aoM,Rel,bH];exact ⟨_,rfl,_,_,rfl,oq,_,_,rfl,rfl,rfl⟩
            | some u=>
              simp only at g2;obtain ⟨j,Y,rfl,g_⟩:=g2;refine ⟨if ok=true then .tuple #[Y,.bool true] else Y,?_,?_⟩
              . simp only [Instr.lookup,Sem.run_bind,hu,Result.andThen_ok,Sem.run_pure,f_];rw [l0,Result.andThen_ok,Ec,Result.andThen_ok];simp only [Sem.run_bind,Sem.run_pure,Result.andThen_ok]
              . cases ok
                . exact g_
                . simp only [aoJ,aoM,Rel,bH];exact ⟨_,rfl,_,_,rfl,g_,_,_,rfl,rfl,rfl⟩
           simp only [pY] at he;cases hm:vz h x with
           | none=>rw [hm] at he;cases he
           | some es=>
             rw [hm] at he;simp only at he;cases sk:qm (nI i_.bw) k es with
             | none=>rw [sk] at he;cases he
             | some r=>
               rw [sk] at he;simp only at he;have main:∀(l:List MapEntry),gi E es l->∃R,(Instr.findKey ek K l).run P w=.ok R w/\
                ((R=none/\Rel E v (if ok=true then .tuple #[v7,.bool false] else v7))\/∃j Y,R=some (j,Y)/\Rel E v (if ok=true then .tuple #[Y,.bool true] else Y)):=by
                intro l aG;obtain ⟨R,g1,g2⟩:=Pq aD es l r 0 sk aG;refine ⟨R,run_findKey o7 g1,?_⟩;cases r with
                | none=>
                  simp only at g2 he;refine .inl ⟨g2,?_⟩;simp only [aoC] at he;subst he;cases ok
                  . exact oq
                  . simp only [aoJ,aoM,Rel,bH];exact ⟨_,rfl,_,_,rfl,oq,_,_,rfl,rfl,rfl⟩
                | some u=>
                  simp only at g2 he;obtain ⟨j,Y,c1,g_⟩:=g2;refine .inr ⟨j,Y,c1,?_⟩;simp only [aoC] at he;subst he;cases ok
                  . exact g_
                  . simp only [aoJ,aoM,Rel,bH];exact ⟨_,rfl,_,_,rfl,g_,_,_,rfl,rfl,rfl⟩
               rcases JF (P:=P) s hm au with ⟨rfl,rfl⟩ | ⟨aW,a,clock,rfl,f_,BW⟩
               . obtain ⟨R,g1,g2⟩:=main [] rfl;have l0:=run_checkKey (P:=P) aE o7 true K;rcases g2 with ⟨rfl,g3⟩ | ⟨j,Y,rfl,g3⟩
                 all_goals
                  refine ⟨_,?_,g3⟩;simp only [Instr.lookup,Sem.run_bind,hu,Result.andThen_ok,Sem.run_pure];have aO:(#[]:Array MapEntry).isEmpty=true:=rfl;rw [aO,l0,Result.andThen_ok,g1,Result.andThen_ok];simp only [Sem.run_bind,o',Result.andThen_ok,Sem.run_pure]
               . obtain ⟨R,g1,g2⟩:=main a.toList BW;have l0:=run_checkKey (P:=P) aE o7 a.isEmpty K;rcases g2 with ⟨rfl,g3⟩ | ⟨j,Y,rfl,g3⟩
                 all_goals
                  refine ⟨_,?_,g3⟩;simp only [Instr.lookup,Sem.run_bind,hu,Result.andThen_ok,Sem.run_pure,f_];rw [l0,Result.andThen_ok,g1,Result.andThen_ok];simp only [Sem.run_bind,o',Result.andThen_ok,Sem.run_pure]
theorem TE {aA:Fr} {E:Env} {h ae:ah} {w:World} (s:bD aA E h w) {t:TypeId} {x k v:V} {X K Y:Value} (au:Rel E x X) (aD:Rel E k K) (bZ:Rel E v Y) (he:(vU P t).run h x k v=some ae):
 ∃w',(Instr.mapUpdate t X K Y).run P w=.ok () w'/\bD aA E ae w':=by
 unfold vU at he;cases az:bf P t with
 | none=>rw [az] at he;cases he
 | some aS=>
   rw [az] at he;simp only at he;have hu:=ha az w;cases cC:aS.bw<;>rw [cC] at he<;>simp only at he<;>try (cases he;done)
   rename_i ek mS;rw [cC] at hu;cases tB:bf P ek with
   | none=>rw [tB] at he;cases he
   | some i_=>
     rw [tB] at he;simp only at he;cases aE:nh i_.bw with
     | false=>
       rw [aE] at he;simp only [aoP] at he;have BE:∃e,Av P w E ek e K/\qZ e h x k v=some ae:=by
        cases ry:kO P ek with
        | true=>
          rw [ry] at he;exact ⟨_,GV s ry K,he⟩
        | false=>
          rw [ry] at he;simp only [aoP] at he;cases eJ:nW P ek with
          | false=>rw [eJ] at he;cases he
          | true=>
            rw [eJ] at he;simp only [aoJ] at he;obtain ⟨ay,he⟩:=fT he;exact ⟨_,GW eJ ay aD,he⟩
       clear he;obtain ⟨e,ask,he⟩:=BE;cases x<;>simp only [qZ] at he<;>try (cases he;done)
       rename_i b;simp only [Rel] at au;obtain ⟨p,aF,rfl⟩:=au;have ai:=s.at aF;cases ay:h.get b<;>rw [ay] at he<;>simp only [c_.nN] at he<;>try (cases he;done)
       rename_i es clock;rw [ay] at ai;obtain ⟨q,a,ad,cd,ar,aT⟩:=ai;rw [aF] at ad;cases ad;cases xg:pj e k v clock es with
       | none=>rw [xg] at he;cases he
       | some r=>
         rw [xg] at he;simp only [aoC] at he;subst he;have f_:(getObj p.bp).run P w=.ok (.map a clock) w:=by simp only [getObj,Sem.run,ar]
         have l0:=ask.check false;have o9:=(aoD.1 ar).1;have Bh:∀(bF:Array MapEntry) (eV:Nat),gi E r.1 bF.toList->eV=(bif r.2 then clock+1 else clock)->
          ∃w',(setObj p.bp (.map bF eV)).run P w=.ok () w'/\bD aA E (h.set b (.mp r.1 (bif r.2 then clock+1 else clock))) w':=by
          intro bF eV hm ax;refine ⟨{w with heap:=w.heap.setIfInBounds p.bp (.map bF eV)},by simp only [setObj,Sem.run,ar],s.set (p:=p) (by rw [ay];rfl) aF cd (by simp) (fun j cW=>?_) rfl rfl rfl (fun _ _ _ e=>by cases e) ?_⟩
          . simp only [aoY];rw [aoI (fun e=>cW e.symm)]
          . exact ⟨p,bF,aF,cd,by simp [o9,ax],hm⟩
         obtain ⟨g1,g2⟩:=Sq ask.eq aD bZ clock es a.toList r 0 xg aT;cases pM:r.2 with
         | true=>
           obtain ⟨cN,a2⟩:=g1 pM;obtain ⟨w',d1,d2⟩:=Bh (a.push ⟨K,Y,clock⟩) (clock+1) (by simpa using a2) (by rw [pM];rfl);rw [pM] at d2;refine ⟨w',?_,d2⟩;simp only [Instr.mapUpdate,Sem.run_bind,hu,Result.andThen_ok,f_,l0,ask.find cN,d1]
         | false=>
           obtain ⟨j,af,Vk,cN,a2,a3,a4⟩:=g2 pM;obtain ⟨w',d1,d2⟩:=Bh (a.modify j fun af=>{af with key:=K,val:=Y}) clock (by simpa using a4) (by rw [pM];rfl);rw [pM] at d2;refine ⟨w',?_,d2⟩;rw [aph] at cN;have aO:a[j]? =some af:=by simpa using a2
           simp only [Instr.mapUpdate,Sem.run_bind,hu,Result.andThen_ok,f_,l0,ask.find cN,aO,Option.map,Option.getD,Instr.keyThatStays,a3,aoM,Sem.run_pure,d1]
     | true=>
       rw [aE] at he;simp only [aoJ] at he;have o7:=ha tB w;cases x<;>simp only [qZ] at he<;>try (cases he;done)
       rename_i b;simp only [Rel] at au;obtain ⟨p,aF,rfl⟩:=au;have ai:=s.at aF;cases ay:h.get b<;>rw [ay] at he<;>simp only [c_.nN] at he<;>try (cases he;done)
       rename_i es clock;rw [ay] at ai;obtain ⟨q,a,ad,cd,ar,aT⟩:=ai;rw [aF] at ad;cases ad;cases xg:pj (nI i_.bw) k v clock es with
       | none=>rw [xg] at he;cases he
       | some r=>
         rw [xg] at he;simp only [aoC] at he;subst he;have f_:(getObj p.bp).run P w=.ok (.map a clock) w:=by simp only [getObj,Sem.run,ar]
         have l0:=run_checkKey (P:=P) aE o7 false K;have o9:=(aoD.1 ar).1;have done:∀(bF:Array MapEntry) (eV:Nat),gi E r.1 bF.toList->eV=(bif r.2 then clock+1 else clock)->
          ∃w',(setObj p.bp (.map bF eV)).run P w=.ok () w'/\bD aA E (h.set b (.mp r.1 (bif r.2 then clock+1 else clock))) w':=by
          intro bF eV hm ax;refine ⟨{w with heap:=w.heap.setIfInBounds p.bp (.map bF eV)},by simp only [setObj,Sem.run,ar],s.set (p:=p) (by rw [ay];rfl) aF cd (by simp) (fun j cW=>?_) rfl rfl rfl (fun _ _ _ e=>by cases e) ?_⟩
          . simp only [aoY];rw [aoI (fun e=>cW e.symm)]
          . exact ⟨p,bF,aF,cd,by simp [o9,ax],hm⟩
         obtain ⟨g1,g2⟩:=Sr aD bZ clock es a.toList r 0 xg aT;cases pM:r.2 with
         | true=>
           obtain ⟨cN,a2⟩:=g1 pM;obtain ⟨w',d1,d2⟩:=done (a.push ⟨K,Y,clock⟩) (clock+1) (by simpa using a2) (by rw [pM];rfl);rw [pM] at d2;refine ⟨w',?_,d2⟩;simp only [Instr.mapUpdate,Sem.run_bind,hu,Result.andThen_ok,f_,l0,run_findKey o7 cN,d1]
         | false=>
           obtain ⟨j,e,Vk,cN,a2,a3,a4⟩:=g2 pM;obtain ⟨w',d1,d2⟩:=done (a.modify j fun e=>{e with key:=K,val:=Y}) clock (by simpa using a4) (by rw [pM];rfl);rw [pM] at d2;refine ⟨w',?_,d2⟩;rw [aph] at cN;have aO:a[j]? =some e:=by simpa using a2
           simp only [Instr.mapUpdate,Sem.run_bind,hu,Result.andThen_ok,f_,l0,run_findKey o7 cN,aO,Option.map,Option.getD,Instr.keyThatStays,a3,aoM,Sem.run_pure,d1]
theorem RB {aA:Fr} {E:Env} {h ae:ah} {w:World} (s:bD aA E h w) {v:V} (he:zP h=.val v ae):eo aA P E w (do pure (.map (some (<-newObj (.map #[] 0))))) v ae:=by
 unfold zP at he;simp only [bh.val.injEq] at he;obtain ⟨rfl,rfl⟩:=he;have e9:=s.fresh h.next (aoz _)
 have fe:E.put (ao h.next) ⟨w.heap.size,0,0⟩ (ao h.next)=some ⟨w.heap.size,0,0⟩:=by unfold Env.put;rw [aoN rfl]
 refine ⟨.map (some w.heap.size),{w with heap:=w.heap.push (.map #[] 0)},_,?_,Env.pS (p:=⟨w.heap.size,0,0⟩) e9,?_,s.alloc 0 ?_⟩
 . simp only [Sem.run_bind,run_newObj,Result.andThen_ok,Sem.run_pure]
 . simp only [Rel];exact ⟨_,fe,rfl⟩
 . exact ⟨_,#[],fe,s.frame.size,by simp,rfl⟩
theorem agY {aA:Fr} {E:Env} {h ae:ah} {w:World} (s:bD aA E h w) {t:TypeId} {x:Option V} {X:Option Value} {v:V} (au:jD E x X) (he:zH P t x h=.val v ae):eo aA P E w (Instr.makeMap t X) v ae:=by
 unfold zH at he;cases az:bf P t with
 | none=>rw [az] at he;cases he
 | some aS=>
   rw [az] at he;simp only at he;have hu:=ha az;cases ai:Nat.beq (gw aS.bw) 3 with
   | false=>rw [ai] at he;cases he
   | true=>
     rw [ai] at he;simp only [aoJ] at he;cases x with
     | none=>
       have:X=none:=by cases X with | none=>rfl | some _=>simp [jD] at au
       subst this;simp only [vy] at he;have:=RB (P:=P) s he;exact this
     | some u=>
       simp only [vy] at he;obtain ⟨dL,n,rfl,ad⟩:=t_ he;obtain ⟨Y,rfl,g_⟩:∃Y,X=some Y/\Rel E (.int dL n) Y:=by
        cases X with
        | none=>simp [jD] at au
        | some Y=>simp only [jD] at au;obtain ⟨am7,ad,ag⟩:=au;cases ad;exact ⟨_,rfl,ag⟩
       have:=g_.kq;subst this;obtain ⟨Z,w',aw,an,av⟩:=RB (P:=P) s ad;refine ⟨Z,w',aw,?_,av⟩;cases cC:aS.bw<;>rw [cC] at ai<;>simp [gw] at ai;have hu:=hu w;rw [cC] at hu;simp only [Instr.makeMap,Sem.run_bind,hu,Result.andThen_ok,asInt,Sem.run_pure];exact an
theorem agA {aA:Fr} {E:Env} {h ae:ah} {w:World} (s:bD aA E h w) {t:TypeId} {aS:pB} (az:bf P t=some aS) (hm:vs aS.bw=true) {x v:V} {X:Value} (au:Rel E x X) (ty:TypeId) (rest:List TypeId)
 (he:Cp [x] h=.val v ae):eo aA P E w (Builtin.len_ (t::rest).toArray ty #[X]) v ae:=by
 simp only [Cp] at he;cases al:vz h x with
 | none=>rw [al] at he;cases he
 | some es=>
   rw [al] at he;simp only [bh.val.injEq] at he;obtain ⟨rfl,rfl⟩:=he;have hu:=ha az w;cases cC:aS.bw<;>rw [cC] at hm<;>simp [vs] at hm;rw [cC] at hu;rcases JF (P:=P) s al au with ⟨rfl,rfl⟩ | ⟨aW,a,clock,rfl,f_,BW⟩
   . refine eo.plain (Z:=goInt 0) s ?_ (by simp [Rel,goInt]);simp [Builtin.len_,hu]
   . have hlen:∀(ms:List fv) (l:List MapEntry),gi E ms l->l.length=ms.length:=by
      intro ms
      induction ms with
      | nil=>intro l h;simp only [gi] at h;subst h;rfl
      | cons m ms cc=>intro l h;obtain ⟨e,es,rfl,_,_,_,aT⟩:=h;simp [cc _ aT]
     refine eo.plain (Z:=goInt a.size) s ?_ ?_
     . simp [Builtin.len_,hu,f_]
     . have:=hlen _ _ BW;simp only [Array.length_toList] at this;simp [Rel,goInt,this]
end
section
variable {P:Program}
theorem Pj {E:Env} {v:V} {Y:Value} (bZ:Rel E v Y) {n:Nat}:∀(es:List fv) (l:List MapEntry) (r:List fv),yU n v es=some r->gi E es l->
 ∃j,l.findIdx? (fun e=>(e.born:Int) == (n:Int))=some j/\gi E r (l.modify j fun e=>{e with val:=Y})
 | [],l,r,h,U=>by cases h
 | m::ms,l,r,h,U=>by
   obtain ⟨e,es,rfl,ad,ag,ar,aT⟩:=U;simp only [yU] at h;cases ai:Nat.beq m.born n with
   | true=>
     rw [ai] at h;simp only [aoJ,aoC] at h;subst h;have aI:=apA ai;refine ⟨0,by simp [List.findIdx?_cons,ar,aI],?_⟩;exact ⟨_,es,rfl,ad,bZ,ar,aT⟩
   | false=>
     rw [ai] at h;simp only [aoP] at h;cases aE:yU n v ms with
     | none=>rw [aE] at h;cases h
     | some bq=>
       rw [aE] at h;simp only [aoC] at h;subst h;obtain ⟨j,g1,g2⟩:=Pj bZ ms es bq aE aT;have d':¬((e.born:Int) == (n:Int))=true:=by
        rw [ar];intro aH;have Qo:(m.born:Int)=(n:Int):=by simpa using aH
        have adt:m.born=n:=by omega
        rw [adt,Nat.beq_refl] at ai;cases ai
       refine ⟨j+1,by simp only [List.findIdx?_cons,d'];simp [g1],⟨e,_,by simp [List.modify],ad,ag,ar,g2⟩⟩
theorem aaC {aA:Fr} {E:Env} {h ae:ah} {w:World} (s:bD aA E h w) {t:TypeId} {x st v:V} {X S Y:Value} (au:Rel E x X) (eJ:Rel E st S) (bZ:Rel E v Y) (he:Bn h x st v=some ae):
 ∃w',(Instr.entryStore t X S Y).run P w=.ok () w'/\bD aA E ae w':=by
 unfold Bn at he
 split at he
 case h_2=>cases he
 rename_i b
 split at he
 case h_2=>cases he
 rename_i dL m
 split at he
 case h_2=>cases he
 rename_i n;simp only [Rel] at au eJ;obtain ⟨p,aF,rfl⟩:=au;subst eJ;have ai:=s.at aF;cases ay:h.get b<;>rw [ay] at he<;>simp only [c_.nN] at he<;>try (cases he;done)
 rename_i es clock;rw [ay] at ai;obtain ⟨q,a,ad,cd,ar,aT⟩:=ai;rw [aF] at ad;cases ad;cases aE:yU n v es with
 | none=>rw [aE] at he;cases he
 | some r=>
   rw [aE] at he;simp only [aoC] at he;subst he;obtain ⟨j,g1,g2⟩:=Pj bZ es a.toList r aE aT;have f_:(getObj p.bp).run P w=.ok (.map a clock) w:=by simp only [getObj,Sem.run,ar]
   have o9:=(aoD.1 ar).1;have Ec:a.findIdx? (fun e=>(e.born:Int) == (n:Int))=some j:=by rw [<-g1];cases a with | mk anU=>simp
   have b5:(asInt (.int dL (Int.ofNat n))).run P w=.ok (n:Int) w:=by simp [asInt,asIntOf]
   refine ⟨{w with heap:=w.heap.setIfInBounds p.bp (.map (a.modify j fun e=>{e with val:=Y}) clock)},?_,s.set (p:=p) (by rw [ay];rfl) aF cd (by simp) (fun j cW=>?_) rfl rfl rfl (fun _ _ _ e=>by cases e) ?_⟩
   . simp only [Instr.entryStore,Sem.run_bind,f_,Result.andThen_ok,b5,Ec,setObj,Sem.run,ar]
   . simp only [aoY];rw [aoI (fun e=>cW e.symm)]
   . exact ⟨p,a.modify j fun e=>{e with val:=Y},aF,cd,by simp [o9],by rw [Array.toList_modify];exact g2⟩
theorem Pm {w:World} {E:Env} {ek:TypeId} {e:fy} (eh:yv P w E ek e) {k:V} {K:Value} (aD:Rel E k K):∀(es:List fv) (l:List MapEntry) (r:Option fv) (i:Nat),yV e k es=some r->gi E es l->
 (r=none->(Instr.findAsking ek K l i).run P w=.ok none w)/\
 (∀m,r=some m->∃j af,(Instr.findAsking ek K l i).run P w=.ok (some (i+j,af.val)) w/\l[j]? =some af/\af.key=K/\Rel E m.v af.val/\af.born=m.born/\Instr.sameBits 10000 K K=true/\gi E es (l.modify j fun af=>{af with key:=K}))
 | [],l,r,i,h,U=>by simp only [gi] at U;subst U;simp only [yV,aoC] at h;subst h;exact ⟨fun _=>rfl,fun m hm=>by cases hm⟩
 | m::ms,l,r,i,h,U=>by
   obtain ⟨af,es,rfl,ad,ag,ar,aT⟩:=U;simp only [yV] at h;cases al:e.run k m.k with
   | none=>rw [al] at h;cases h
   | some b=>
     rw [al] at h;simp only at h;obtain ⟨an,av⟩:=eh _ _ _ _ _ al aD ad;cases b with
     | true=>
       simp only [aoJ,aoC] at h;subst h;obtain ⟨aB,bt⟩:=av rfl;refine ⟨fun h=>(by cases h),fun dx hm=>?_⟩;cases hm;exact ⟨0,af,by simp [Instr.findAsking,an],rfl,aB,ag,ar,bt,⟨_,es,rfl,by rw [<-aB];exact ad,ag,ar,aT⟩⟩
     | false=>
       simp only [aoP] at h;obtain ⟨g1,g2⟩:=Pm eh aD ms es r (i+1) h aT;refine ⟨fun h=>by simp [Instr.findAsking,an,g1 h],fun dx hm=>?_⟩;obtain ⟨j,aax,cN,a2,a3,a4,a5,nA,GP⟩:=g2 dx hm;exact ⟨j+1,aax,by simp [Instr.findAsking,an,cN];omega,by simpa using a2,a3,a4,a5,nA,⟨af,_,rfl,ad,ag,ar,GP⟩⟩
theorem Rq {aA:Fr} {E:Env} {h ae:ah} {w:World} (s:bD aA E h w) {t ek mS:TypeId} (hu:(underlying t).run P w=.ok (.map ek mS) w) {e:fy} {z:V} {Z:Value} (bN:(zeroValue mS).run P w=.ok Z w) (oq:Rel E z Z)
 {x k v:V} {X K:Value} (au:Rel E x X) (aD:Rel E k K) (ask:Av P w E ek e K) (he:zJ e z h x k=some (v,ae)):eo aA P E w (Instr.mapEntry t X K) v ae:=by
 unfold zJ at he
 split at he
 case h_2=>cases he
 rename_i b;simp only [Rel] at au;obtain ⟨p,aF,rfl⟩:=au;have ai:=s.at aF;cases ay:h.get b<;>rw [ay] at he<;>simp only [c_.nN] at he<;>try (cases he;done)
 rename_i es clock;rw [ay] at ai;obtain ⟨q,a,ad,cd,ar,aT⟩:=ai;rw [aF] at ad;cases ad;have f_:(getObj p.bp).run P w=.ok (.map a clock) w:=by simp only [getObj,Sem.run,ar]
 have l0:=ask.check false;have o9:=(aoD.1 ar).1;have Bh:∀(mm:List fv) (bF:Array MapEntry) (eV:Nat),gi E mm bF.toList->
  ∃w',(setObj p.bp (.map bF eV)).run P w=.ok () w'/\bD aA E (h.set b (.mp mm eV)) w':=by
  intro mm bF eV hm;refine ⟨{w with heap:=w.heap.setIfInBounds p.bp (.map bF eV)},by simp only [setObj,Sem.run,ar],s.set (p:=p) (by rw [ay];rfl) aF cd (by simp) (fun j cW=>?_) rfl rfl rfl (fun _ _ _ e=>by cases e) ?_⟩
  . simp only [aoY];rw [aoI (fun e=>cW e.symm)]
  . exact ⟨p,bF,aF,cd,by simp [o9],hm⟩
 cases aE:yV e k es with
 | none=>rw [aE] at he;cases he
 | some r=>
   rw [aE] at he;simp only at he;obtain ⟨g1,g2⟩:=Pm ask.eq aD es a.toList r 0 aE aT;cases r with
   | none=>
     simp only [aoC,apy] at he;obtain ⟨rfl,rfl⟩:=he;have cN:=ask.find (g1 rfl);obtain ⟨w',d1,d2⟩:=Bh (es++[⟨k,z,clock⟩]) (a.push ⟨K,Z,clock⟩) (clock+1) (by
      have:∀(es:List fv) (l:List MapEntry),gi E es l->gi E (es++[⟨k,z,clock⟩]) (l++[⟨K,Z,clock⟩]):=by
       intro es
       induction es with
       | nil=>intro l aG;simp only [gi] at aG;subst aG;exact ⟨_,_,rfl,aD,oq,rfl,rfl⟩
       | cons m ms cc=>intro l aG;obtain ⟨af,mm,rfl,bT,c2,h9,oP⟩:=aG;exact ⟨af,_,rfl,bT,c2,h9,cc _ oP⟩
      simpa using this es a.toList aT)
     refine ⟨.tuple #[Z,goInt clock],w',E,?_,Env.le.refl E,?_,d2⟩
     . simp only [Instr.mapEntry,Sem.run_bind,hu,Result.andThen_ok,f_,l0,cN,bN,d1,Sem.run_pure]
     . simp only [Rel,bH];exact ⟨_,rfl,_,_,rfl,oq,_,_,rfl,rfl,rfl⟩
   | some m=>
     simp only [aoC,apy] at he;obtain ⟨rfl,rfl⟩:=he;obtain ⟨j,af,cN,a2,a3,a4,a5,nA,GP⟩:=g2 m rfl;rw [aph] at cN;have bT:=ask.find cN;have aO:a[j]? =some af:=by simpa using a2
     obtain ⟨w',d1,d2⟩:=Bh es (a.modify j fun af=>{af with key:=K}) clock (by rw [Array.toList_modify];exact GP);refine ⟨.tuple #[af.val,goInt af.born],w',E,?_,Env.le.refl E,?_,d2⟩
     . simp only [Instr.mapEntry,Sem.run_bind,hu,Result.andThen_ok,f_,l0,bT,aO,Option.map,Option.getD,a3,Instr.keyThatStays,nA,aoM,Sem.run_pure,d1]
     . simp only [Rel,bH];exact ⟨_,rfl,_,_,rfl,a4,_,_,rfl,by rw [a5];rfl,rfl⟩
theorem ag1 {aA:Fr} {E:Env} {h ae:ah} {w:World} (s:bD aA E h w) {t:TypeId} {x k v:V} {X K:Value} (au:Rel E x X) (aD:Rel E k K) (he:(E8 P t).run x k h=.val v ae):eo aA P E w (Instr.mapEntry t X K) v ae:=by
 unfold E8 at he;cases az:bf P t with
 | none=>rw [az] at he;cases he
 | some aS=>
   rw [az] at he;simp only at he;have hu:=ha az w;cases cC:aS.bw<;>rw [cC] at he<;>simp only at he<;>try (cases he;done)
   rename_i ek mS;rw [cC] at hu;cases het:bf P mS with
   | none=>rw [het] at he;cases he
   | some bo=>
     rw [het] at he;simp only at he;cases bN:bo.zero with
     | none=>rw [bN] at he;cases he
     | some z=>
       rw [bN] at he;simp only at he;obtain ⟨v7,o',oq,_⟩:=Aa (P:=P) het bN E w;cases ry:kO P ek with
       | true=>
         rw [ry] at he;simp only [aoJ,HE] at he;cases hm:zJ ⟨nT h⟩ z h x k with
         | none=>rw [hm] at he;cases he
         | some r=>
           rw [hm] at he;simp only [bh.val.injEq] at he;obtain ⟨rfl,rfl⟩:=he;exact Rq s hu o' oq au aD (GV s ry K) hm
       | false=>
         rw [ry] at he;simp only [aoP] at he;cases eJ:nW P ek with
         | false=>rw [eJ] at he;cases he
         | true=>
           rw [eJ] at he;simp only [aoJ,HF] at he;cases ay:sy P ek k with
           | false=>rw [ay] at he;cases he
           | true=>
             rw [ay] at he;simp only [aoJ] at he;cases hm:zJ (structEq P ek) z h x k with
             | none=>rw [hm] at he;cases he
             | some r=>
               rw [hm] at he;simp only [bh.val.injEq] at he;obtain ⟨rfl,rfl⟩:=he;exact Rq s hu o' oq au aD (GW eJ ay aD) hm
end
section
variable {P:Program}
theorem PT (n:Nat):∀(l:List Nat),ve l n=true↔n ∈ l
 | []=>by simp [ve]
 | x::xs=>by
   simp only [ve];cases ai:Nat.beq x n with
   | true=>have:=apA ai;subst this;simp
   | false=>
     have d':x≠n:=fun e=>by subst e;rw [Nat.beq_refl] at ai;cases ai
     simp [PT n xs,Ne.symm d']
theorem ace {a:Array Nat} {seen:List Nat} (h:a.toList=seen.reverse) (n:Nat):a.contains n=ve seen n:=by rw [aps,PT,Array.contains_iff_mem,<-Array.mem_toList_iff,h,List.mem_reverse]
theorem Ra {E:Env} {a:Array Nat} {seen:List Nat} (h:a.toList=seen.reverse):∀(ms:List fv) (l:List MapEntry),gi E ms l->gi E (leftOf seen ms) (l.filter fun e=>!a.contains e.born)
 | [],l,U=>by simp only [gi] at U;subst U;rfl
 | m::ms,l,U=>by
   obtain ⟨e,es,rfl,ad,ag,ar,aT⟩:=U;have cc:=Ra h ms es aT;have aH:a.contains e.born=ve seen m.born:=by rw [ace h,ar]
   cases ai:ve seen m.born with
   | true=>
     rw [ai] at aH;rw [List.filter_cons_of_neg (by rw [aH];decide)];simp only [leftOf,ai,aoJ];exact cc
   | false=>
     rw [ai] at aH;rw [List.filter_cons_of_pos (by rw [aH];decide)];simp only [leftOf,ai,aoP];exact ⟨e,_,rfl,ad,ag,ar,cc⟩
theorem Ma {E:Env} {last:Nat}:∀(ms:List fv) (l:List MapEntry),gi E ms l->l.all (fun e=>decide (e.born>=last))=yD last ms
 | [],l,U=>by simp only [gi] at U;subst U;rfl
 | m::ms,l,U=>by
   obtain ⟨e,es,rfl,ad,ag,ar,aT⟩:=U;simp only [yD,aqg,Ma ms es aT,ar];cases ai:Nat.ble last m.born with
   | true=>rw [aoT] at ai;simp [ai]
   | false=>
     have:¬last<=m.born:=by rw [<-Nat.ble_eq,ai];simp
     simp [this]
theorem Mr {E:Env} {n:Nat}:∀(ms:List fv) (l:List MapEntry) (m:fv),gi E ms l->A4 n ms=some m->∃e,l.find? (fun e=>e.born == n)=some e/\Rel E m.k e.key/\Rel E m.v e.val
 | [],l,m,U,h=>by cases h
 | x::xs,l,m,U,h=>by
   obtain ⟨e,es,rfl,ad,ag,ar,aT⟩:=U;simp only [A4] at h;cases ai:Nat.beq x.born n with
   | true=>
     rw [ai] at h;simp only [aoJ,aoC] at h;subst h;have:=apA ai;exact ⟨e,by simp [List.find?_cons,ar,this],ad,ag⟩
   | false=>
     rw [ai] at h;simp only [aoP] at h;obtain ⟨fi,g1,g2⟩:=Mr xs es m aT h;have d':x.born≠n:=fun e=>by rw [e,Nat.beq_refl] at ai;cases ai
     exact ⟨fi,by simp [List.find?_cons,ar,d',g1],g2⟩
theorem J3 {k:c_} {f:List fv->Nat->bh} {v:V} {ae:ah} (h:k.nN .fail f=.val v ae):∃es clock,k=.mp es clock/\f es clock=.val v ae:=by
 cases k<;>simp only [c_.nN] at h<;>first
  | (cases h;done)
  | exact ⟨_,_,rfl,h⟩
theorem RQ {v:V} {f:aN->Nat->bh} {r:V} {ae:ah} (h:v.lG .fail f=.val r ae):∃b off,v=.ptr b off/\f b off=.val r ae:=by
 cases v<;>simp only [V.lG] at h<;>first
  | (cases h;done)
  | exact ⟨_,_,rfl,h⟩
theorem akb {aA:Fr} {E:Env} {h ae:ah} {w:World} (s:bD aA E h w) {t ek mS:TypeId} (hu:(underlying t).run P w=.ok (.map ek mS) w) {x v:V} {X:Value} (au:Rel E x X) (he:rangeMap x h=.val v ae):eo aA P E w (Instr.range t X) v ae:=by
 have e9:=s.fresh h.next (aoz _)
 have fe:E.put (ao h.next) ⟨w.heap.size,0,0⟩ (ao h.next)=some ⟨w.heap.size,0,0⟩:=by unfold Env.put;rw [aoN rfl]
 unfold rangeMap at he
 split at he
 . simp only [bh.val.injEq] at he;obtain ⟨rfl,rfl⟩:=he;simp only [Rel] at au;subst au;refine ⟨.pointer (some ⟨w.heap.size,0,none⟩),{w with heap:=w.heap.push (.mapIter none 0 #[] 0)},_,?_,Env.pS (p:=⟨w.heap.size,0,0⟩) e9,?_,s.alloc 0 ?_⟩
   . simp only [Instr.range,Sem.run_bind,hu,Result.andThen_ok,Sem.run_pure,run_newObj]
   . simp only [Rel];exact ⟨_,fe,by simp⟩
   . exact ⟨_,none,#[],fe,s.frame.size,rfl,by simp,rfl,rfl⟩
 . rename_i c;obtain ⟨es,clock,ay,he⟩:=J3 he;simp only [bh.val.injEq] at he;obtain ⟨rfl,rfl⟩:=he;simp only [Rel] at au;obtain ⟨p,aF,rfl⟩:=au;have ai:=s.at aF;rw [ay] at ai;obtain ⟨q,a,ad,cd,ar,aT⟩:=ai;rw [aF] at ad;cases ad;have f_:(getObj p.bp).run P w=.ok (.map a clock) w:=by simp only [getObj,Sem.run,ar]
   have hle:E.le (E.put (ao h.next) ⟨w.heap.size,0,0⟩):=Env.pS e9;refine ⟨.pointer (some ⟨w.heap.size,0,none⟩),{w with heap:=w.heap.push (.mapIter (some p.bp) clock #[] clock)},_,?_,hle,?_,s.alloc 0 ?_⟩
   . simp only [Instr.range,Sem.run_bind,hu,Result.andThen_ok,Sem.run_pure,f_,run_newObj]
   . simp only [Rel];exact ⟨_,fe,by simp⟩
   . exact ⟨_,some p.bp,#[],fe,s.frame.size,rfl,by simp,rfl,p,hle _ _ aF,rfl⟩
 . cases he
theorem ahr {aA:Fr} {E:Env} {h ae:ah} {w:World} (s:bD aA E h w) {x v:V} {X:Value} {ty:TypeId} (au:Rel E x X) (he:gd x h=.val v ae):eo aA P E w (Instr.next X false ty) v ae:=by
 unfold gd at he;obtain ⟨b,off,rfl,ad⟩:=RQ he;clear he;have ai:=s.at (p:=_) (by simp only [Rel] at au;exact au.choose_spec.1);cases ay:h.get b<;>rw [ay] at ad<;>simp only at ad<;>try (cases ad;done)
 rename_i src since seen last;rw [ay] at ai;cases aM:Nat.beq off 0 with
 | false=>rw [aM] at ad;cases ad
 | true=>
 rw [aM] at ad;simp only [aoJ] at ad;have aM:=apA aM;subst aM;obtain ⟨p,m,a,aF,cd,sg,bP,b5,kI⟩:=ai;simp only [Rel] at au;obtain ⟨q,aH,rfl⟩:=au;rw [aF] at aH;cases aH;have f_:(getObj p.bp).run P w=.ok (.mapIter m since a last) w:=by simp only [getObj,Sem.run,bP]
 have over:Rel E (.tuple [.bool false]) (.tuple #[.bool false]):=by simp only [Rel,bH];exact ⟨_,rfl,_,_,rfl,rfl,rfl⟩
 cases src with
 | none=>
   simp only [wm] at kI;subst kI;simp only [bh.val.injEq] at ad;obtain ⟨rfl,rfl⟩:=ad;refine eo.plain (Z:=.tuple #[.bool false]) s ?_ over;simp only [Instr.next,sg,Sem.run_bind,f_,Result.andThen_ok,Sem.run_pure]
 | some c=>
   simp only [wm] at kI;obtain ⟨vH,rv,rfl⟩:=kI;simp only at ad;obtain ⟨es,clock,Iz,ad⟩:=J3 ad;have BF:=s.at rv;rw [Iz] at BF;obtain ⟨q,pc,g1,_,g3,g4⟩:=BF;rw [rv] at g1;cases g1;have Ew:(getObj vH.bp).run P w=.ok (.map pc clock) w:=by simp only [getObj,Sem.run,g3]
   cases ax:(!seen.isEmpty&&(!es.isEmpty&&yD last es)) with
   | true=>rw [ax] at ad;cases ad
   | false=>
     rw [ax] at ad;simp only [aoP] at ad;have aO:a.isEmpty=seen.isEmpty:=by
      have:a.toList.isEmpty=seen.reverse.isEmpty:=by rw [b5]
      simpa using this
     have bs:pc.isEmpty=es.isEmpty:=by
      cases es with
      | nil=>simp only [gi] at g4;have:pc=#[]:=Array.toList_inj.1 g4
             simp [this]
      | cons y en=>obtain ⟨e,l,aG,_⟩:=g4;have:pc.toList.isEmpty=false:=by rw [aG];rfl
                   simpa using this
     have cT:pc.all (fun e=>decide (e.born>=last))=yD last es:=by rw [<-Ma es _ g4,Array.all_toList]
     have PZ:(!a.isEmpty&&!pc.isEmpty&&pc.all (fun e=>decide (e.born>=last)))=false:=by rw [aO,bs,cT,Bool.and_assoc];exact ax
     have BR:=Ra (E:=E) b5 es _ g4;have P4:(pc.filter fun e=>!a.contains e.born).toList=pc.toList.filter fun e=>!a.contains e.born:=by simp
     cases aG:leftOf seen es with
     | nil=>
       rw [aG] at ad BR;simp only [JP,bh.val.injEq] at ad;obtain ⟨rfl,rfl⟩:=ad;simp only [gi] at BR;have hF:(pc.filter fun e=>!a.contains e.born)=#[]:=by apply Array.toList_inj.1;rw [P4,BR]
       refine eo.plain (Z:=.tuple #[.bool false]) s ?_ over;simp only [Instr.next,sg,Sem.run_bind,f_,Result.andThen_ok,Ew,PZ,aoA,aoK,hF,Sem.run_pure];simp [choose,Sem.run,Question.forced]
     | cons y en=>
       rw [aG] at ad BR;cases en with
       | cons _ _=>cases ad
       | nil=>
         simp only [JP] at ad;cases a7:Nat.blt y.born since with
         | false=>rw [a7] at ad;cases ad
         | true=>
           rw [a7] at ad;simp only [aoJ,bh.val.injEq] at ad;obtain ⟨rfl,rfl⟩:=ad;rw [ape] at a7;obtain ⟨e,r,U,c8,dJ,gU,fl⟩:=BR;simp only [gi] at fl;subst fl;have hF:(pc.filter fun e=>!a.contains e.born)=#[e]:=by apply Array.toList_inj.1;rw [P4,U]
           rw [<-gU] at a7 ⊢
           let dV:Obj:=.mapIter (some vH.bp) since (a.push e.born) clock
           let w':World:={w with heap:=w.heap.setIfInBounds p.bp dV}
           have o9:=(aoD.1 bP).1;have tK:(setObj p.bp dV).run P w=.ok () w':=by simp only [setObj,Sem.run,bP];rfl
           have vl:¬since<=e.born:=by omega
           refine ⟨.tuple #[.bool true,e.key,e.val],w',E,?_,Env.le.refl E,?_,s.set (p:=p) (by rw [ay];rfl) aF cd (by simp [w']) (fun j cW=>?_) rfl rfl rfl (fun _ _ _ e=>by cases e) ?_⟩
           . simp only [Instr.next,sg,Sem.run_bind,f_,Result.andThen_ok,Ew,PZ,aoA,aoK,hF,Sem.run_pure];have ad:(#[e]:Array MapEntry).filter (fun x=>decide (x.born<since))=#[e]:=by simp [a7]
             have ag:(#[e]:Array MapEntry).filter (fun x=>decide (x.born>=since))=#[]:=by simp [a7]
             have w1:(choose (.mapNext 1)).run P w=.ok 0 w:=by simp [choose,Sem.run,Question.forced]
             simp only [ad,ag];simp [w1];change ((setObj p.bp dV).run P w).andThen _=_;rw [tK];rfl
           . simp only [Rel,bH];exact ⟨_,rfl,_,_,rfl,rfl,_,_,rfl,c8,_,_,rfl,dJ,rfl⟩
           . simp only [w',aoY];rw [aoI (fun e=>cW e.symm)]
           . exact ⟨p,some vH.bp,a.push e.born,aF,cd,sg,by simp [w',o9,dV],by simp [b5],vH,rv,rfl⟩
theorem aaD {aA:Fr} {E:Env} {h ae:ah} {w:World} (s:bD aA E h w) {x v:V} {X:Value} (au:Rel E x X) (he:D1 x h=.val v ae):eo aA P E w (Instr.entry X) v ae:=by
 unfold D1 at he;obtain ⟨b,off,rfl,ad⟩:=RQ he;clear he;have ai:=s.at (p:=_) (by simp only [Rel] at au;exact au.choose_spec.1);cases ay:h.get b<;>rw [ay] at ad<;>simp only at ad<;>try (cases ad;done)
 rename_i src since seen last;rw [ay] at ai;cases aM:Nat.beq off 0 with
 | false=>rw [aM] at ad;cases ad
 | true=>
 rw [aM] at ad;simp only [aoJ] at ad;have aM:=apA aM;subst aM;obtain ⟨p,m,a,aF,cd,sg,bP,b5,kI⟩:=ai;simp only [Rel] at au;obtain ⟨q,aH,rfl⟩:=au;rw [aF] at aH;cases aH;have f_:(getObj p.bp).run P w=.ok (.mapIter m since a last) w:=by simp only [getObj,Sem.run,bP]
 cases src with
 | none=>cases ad
 | some c=>
   simp only [wm] at kI;obtain ⟨vH,rv,rfl⟩:=kI;simp only at ad;cases seen with
   | nil=>cases ad
   | cons n an2=>
   simp only at ad;obtain ⟨es,clock,Iz,ad⟩:=J3 ad;have BF:=s.at rv;rw [Iz] at BF;obtain ⟨q,pc,g1,_,g3,g4⟩:=BF;rw [rv] at g1;cases g1;have Ew:(getObj vH.bp).run P w=.ok (.map pc clock) w:=by simp only [getObj,Sem.run,g3]
   rename_i abP _;clear abP;cases o2:Nat.beq clock last with
   | false=>rw [o2] at ad;cases ad
   | true=>
     rw [o2] at ad;simp only [aoJ] at ad;have:=apA o2;subst this;cases Ig:A4 n es with
     | none=>rw [Ig] at ad;cases ad
     | some y=>
       rw [Ig] at ad;simp only [bh.val.injEq] at ad;obtain ⟨rfl,rfl⟩:=ad;obtain ⟨e,f1,f2,f3⟩:=Mr es _ y g4 Ig;have acj:a.back? =some n:=by
        have:a.toList.getLast? =some n:=by rw [b5];simp
        simpa using this
       have od:pc.find? (fun e=>e.born == n)=some e:=by rw [<-f1];simp
       refine eo.plain (Z:=.tuple #[e.key,e.val]) s ?_ ?_
       . simp only [Instr.entry,sg,Sem.run_bind,f_,Result.andThen_ok,acj,Ew,bne_self_eq_false,aoA,aoK,od,Sem.run_pure]
       . simp only [Rel,bH];exact ⟨_,rfl,_,_,rfl,f2,_,_,rfl,f3,rfl⟩
end
section
variable {P:Program}
theorem VP {aA:Fr} {E:Env} {h ae:ah} {w:World} (s:bD aA E h w) {t u e:TypeId} {size:Nat} (adq:1<=size) {x v:V} {X Y:Value} {ty:TypeId} {n:Nat} {new:List V} {l:List Value}
 (aG:bH E new l) (hG:new.length=n * size) (gr:n<=top)
 (hP:∀(w':World) (A:Option Addr) (dX hb:Nat),dX+n<=hb->(∀a,A=some a->(storeCells (a.add (dX * size)) l).run P w=.ok () w')->(A=none->w'=w)->
   (Builtin.append_ #[t,u] ty #[.slice A dX hb,Y]).run P w=.ok (.slice A (dX+n) hb) w')
 (hy:∀(A:Option Addr) (dX hb:Nat) (cu:List Value),(∀w':World,w'.heap=w.heap->(Builtin.firstCells size dX (.slice A dX hb)).run P w'=.ok cu.toArray w')->¬dX+n<=hb->dX+n<=top->cu.length=dX * size->l.length=n * size->
   ∃cap rest w',dX+n<=cap/\cap * size<=((cu++l).toArray++rest).size/\
   (Builtin.append_ #[t,u] ty #[.slice A dX hb,Y]).run P w=.ok (.slice (some ⟨w.heap.size,0,none⟩) (dX+n) cap) w'/\
   w'.heap=w.heap.push (.cells ((cu++l).toArray++rest) e)/\w'.os=w.os/\w'.tape=w.tape/\w'.output=w.output)
 (he:GR size n new x h=.val v ae) (au:Rel E x X):eo aA P E w (Builtin.append_ #[t,u] ty #[X,Y]) v ae:=by
 have rq:l.length=n * size:=by rw [aG.length,hG]
 unfold GR at he;cases x<;>simp only at he<;>try (cases he;done)
 . -- a slice of known capacity
   rename_i b off len cap;simp only [Rel] at au;obtain ⟨p,aF,tE,rfl⟩:=au;simp only [uX] at he;cases ga:Nat.ble (len+n) cap with
   | true=>
     rw [ga] at he;simp only [aoJ] at he;rw [aoT] at ga;cases mY:lay h b (off+len * size) new with
     | none=>rw [mY] at he;cases he
     | some ad=>
     rw [mY] at he;simp only [bh.val.injEq] at he;obtain ⟨rfl,rfl⟩:=he;obtain ⟨w',eJ,l4⟩:=zD (P:=P) s aG mY aF;refine ⟨_,w',E,hP w' _ _ _ ga (fun a b5=>?_) (fun b5=>by cases b5),Env.le.refl E,?_,l4⟩
     . cases b5;rw [add_eq,apw];exact eJ
     . simp only [Rel];exact ⟨p,aF,ga,rfl⟩
   | false=>
     rw [ga] at he;simp only [aoP] at he;have I2:¬len+n<=cap:=by rw [<-Nat.ble_eq,ga];simp
     obtain ⟨ai,he⟩:=n2 he;simp only [aoE,aoT] at ai;cases hold:qX h size b off len with
     | none=>rw [hold] at he;cases he
     | some cu=>
     rw [hold] at he;simp only at he;cases hV:nm h (cu++new) size false with
     | none=>rw [hV] at he;cases he
     | some ad=>
     rw [hV] at he;simp only [bh.val.injEq] at he;obtain ⟨rfl,rfl⟩:=he;obtain ⟨q,cX,aH,hx,tF,lz⟩:=Ai (P:=P) s ⟨p,aF⟩ hold;rw [aF] at aH;cases aH;obtain ⟨c,rest,w',c8,dJ,gU,fl,iZ,hR,jK⟩:=hy (some ⟨p.bp,p.base+off,none⟩) (len) (cap) _
      (fun w' hw=>by simp only [Builtin.firstCells];exact lz w' hw) I2 ai.1 (by rw [hx.length,tF]) rq
     obtain ⟨aw,g1,g2,g3⟩:=xG (w':=w') (cK:=(0,0)) s (hx.append aG) hV dJ (.inr (aoz _)) (fun _=>rfl) fl iZ hR jK;refine ⟨_,w',aw,gU,g1,?_,g3⟩;simp only [Rel];exact ⟨_,g2,by simp only;omega,by simp⟩
 . -- one that was appended to
   rename_i b off len idx;have B':=au;simp only [Rel] at au;obtain ⟨p,aF,P8,rfl⟩:=au;simp only [uW] at he;cases k8:Nat.beq n 0 with
   | true=>
     rw [k8] at he;simp only [aoJ] at he;cases he;rw [ao8] at k8;subst k8;have tC:l=[]:=by cases l with | nil=>rfl | cons _ _=>simp at rq
     subst tC;refine ⟨_,w,E,hP w _ _ _ (by omega) (fun a _=>rfl) (fun b5=>by cases b5),Env.le.refl E,?_,s⟩;simpa using B'
   | false=>
     rw [k8] at he;simp only [aoP] at he;have qp:=s.at aF;cases ay:h.get b with
     | dead=>rw [ay] at he;cases he
     | view _ _=>rw [ay] at he;cases he
     | iter _ _=>rw [ay] at he;cases he
     | mp _ _=>rw [ay] at he;cases he
     | hH _=>rw [ay] at he;cases he
     | h'=>rw [ay] at he;cases he
     | l6 _=>rw [ay] at he;cases he
     | k_ _ _ _ _=>rw [ay] at he;cases he
     | cells N cs dw st=>
       rw [ay] at he qp;simp only [c_.on] at he;obtain ⟨ai,he⟩:=n2 he;simp only [aoE,aoT,ao8] at ai;obtain ⟨⟨It,IS,IU⟩,BZ⟩:=ai;cases hold:qX h size b off len with
       | none=>rw [hold] at he;cases he
       | some cu=>
       rw [hold] at he;simp only at he;cases hV:nm (h.set b .dead) (cu++new) size st with
       | none=>rw [hV] at he;cases he
       | some ad=>
       rw [hV] at he;simp only [bh.val.injEq] at he;obtain ⟨rfl,rfl⟩:=he;obtain ⟨q,cX,aH,hx,tF,lz⟩:=Ai (P:=P) s ⟨p,aF⟩ hold;rw [aF] at aH;cases aH;obtain ⟨cQ,q,c,el,cK,aO,cd,bP,sl,eJ,o1,br⟩:=qp;rw [aF] at aO;cases aO;have tG:=adq;have o1:=o1 (by omega);rw [It] at o1;have C1:=s.kill aF;by_cases ga:len+n<=p.cap-idx
       . -- in place
         have a7:=(aoD.1 bP).1;have acR:(idx+len+n) * size<=p.cap * size:=apj _ (by omega);have hbound:p.base+off+len * size+0+l.length<=c.size:=by
          rw [rq,BZ];have:(idx+len+n) * size=idx * size+len * size+n * size:=by rw [apl,apl]
          omega
         have B7:=FQ (P:=P) a7 el cK (p.base+off+len * size) l c 0 (Fi IU aG) hbound sl;rw [Ln bP,apO] at B7;have I4:=hP (nu w p.bp (rD c (p.base+off+len * size) l) el cK) (some ⟨p.bp,p.base+off,none⟩) _ _ ga
          (fun a b5=>by cases b5;rw [add_eq];exact B7) (fun b5=>by cases b5)
         unfold nm at hV;obtain ⟨ax,hV⟩:=fT hV;simp only [aoE,aoT] at ax;simp only [aoC] at hV;subst hV;have e9:=s.fresh h.next (aoz _)
         have hle:E.le (E.put (ao h.next) ⟨p.bp,p.base+off,p.cap-idx⟩):=Env.pS e9;have fe:E.put (ao h.next) ⟨p.bp,p.base+off,p.cap-idx⟩ (ao h.next)=some ⟨p.bp,p.base+off,p.cap-idx⟩:=by unfold Env.put;rw [aoN rfl]
         refine ⟨_,_,_,I4,hle,?_,bD.add (p:=⟨p.bp,p.base+off,p.cap-idx⟩) C1 (by rw [Lo];exact aoz _) (fun j _ cW=>Lm _ _ _ cW) cd (fun ck gg ko qs heq=>?_) rfl rfl rfl (fun _ _ _ e=>by injection e with _ _ cT;omega) ?_⟩
         . simp only [Rel];exact ⟨_,fe,by simp only;omega,by simp⟩
         . rw [ah.ey] at ko;by_cases k4:b=ck
           . rw [aoN k4] at ko;cases ko
           . rw [aoI k4] at ko;exact k4 (s.inj b ck p gg (by rw [ay];rfl) ko aF qs heq.symm)
         . have II:(cu++new).length=(len+n) * size:=by rw [aoL,tF,hG,apl]
           have acC:(len+n) * size=len * size+n * size:=apl _ _ _;refine ⟨ax.1,_,_,el,cK,fe,cd,Dc a7 _ _ _,by rw [sz];exact sl,eJ,fun _=>?_,?_⟩
           . rw [sz];simp only;have:idx * size + (p.cap-idx) * size=p.cap * size:=by rw [<-Nat.add_mul];congr 1;omega
             omega
           . refine ⟨by rw [sz,II,apl];simp only;omega,fun i y aJ bl=>?_⟩;rw [CS _ _ _ _ (by omega) (by omega),aoN (by omega),aql];rw [EY _ _ _ _ (by omega)] at bl;simp only at bl;by_cases dG:i<len * size
             . rw [aoI (by omega)] at bl;rw [apb (by omega)];have f_:=lz w rfl;have I0:=run_loadCells (P:=P) (w:=w) (off:=p.base+off) (n:=len * size) bP (by omega);rw [I0] at f_;simp only [Result.ok.injEq,and_true] at f_;have IJ:cX=(c.toList.drop (p.base+off)).take (len * size):=by
                have:=congrArg Array.toList f_;simpa using this.symm
               obtain ⟨q0,iL,U⟩:=hx.get i cu[i] (aoB (by omega));rw [aoB (by omega)];rw [IJ] at iL;rw [apt (by omega),apD] at iL;simp only [ap4] at iL;rw [bl] at iL;cases iL;exact Rel.mono hle _ _ U
             . rw [aoN (by omega)] at bl;rw [apf (by omega)];have cT:p.base+off+i - (p.base+off+len * size)=i-cu.length:=by omega
               rw [cT] at bl;have BT:i-cu.length<new.length:=by omega
               obtain ⟨q0,iL,U⟩:=aG.get (i-cu.length) new[i-cu.length] (aoB BT);rw [bl] at iL;cases iL;rw [aoB BT];exact Rel.mono hle _ _ U
       . -- elsewhere
         obtain ⟨c6,rest,w',c8,dJ,gU,fl,iZ,hR,jK⟩:=hy (some ⟨p.bp,p.base+off,none⟩) (len) (p.cap-idx) _
          (fun w' hw=>by simp only [Builtin.firstCells];exact lz w' hw) ga IS (by rw [hx.length,tF]) rq
         obtain ⟨aw,g1,g2,g3⟩:=xG (w':=w') (cK:=(0,0)) C1 (hx.append aG) hV dJ (.inr (aoz _)) (fun _=>rfl) fl iZ hR jK;refine ⟨_,w',aw,gU,g1,?_,g3⟩;simp only [Rel];exact ⟨_,g2,by simp only;omega,by simp⟩
 . -- nil
   simp only [Rel] at au;subst au;simp only [uY] at he;cases k8:Nat.beq n 0 with
   | true=>
     rw [k8] at he;simp only [aoJ] at he;cases he;rw [ao8] at k8;subst k8;exact eo.plain s (hP w _ _ _ (by omega) (fun a b5=>by cases b5) (fun _=>rfl)) (by simp [Rel])
   | false=>
     rw [k8] at he;simp only [aoP] at he;have ru:¬n=0:=by intro e;subst e;simp at k8
     cases hV:nm h new size false with
     | none=>rw [hV] at he;cases he
     | some ad=>
     rw [hV] at he;simp only [bh.val.injEq] at he;obtain ⟨rfl,rfl⟩:=he;obtain ⟨c,rest,w',c8,dJ,gU,fl,iZ,hR,jK⟩:=hy (none) (0) (0) []
      (fun w' _=>by simp [Builtin.firstCells]) (by omega) (by omega) (by simp) rq
     obtain ⟨aw,g1,g2,g3⟩:=xG (w':=w') (cK:=(0,0)) s aG hV dJ (.inr (aoz _)) (fun _=>rfl) fl iZ hR jK;refine ⟨_,w',aw,gU,g1,?_,g3⟩;simp only [Rel];exact ⟨_,g2,by simp only;omega,by simp⟩
structure GO (P:Program) (t u e:TypeId) (size bytes:Nat) (k:IntKind) (z:Value):Prop where
 ut:∀w,(underlying t).run P w=.ok (.slice e) w
 uD:∀w,(underlying u).run P w=.ok (.int k) w
 sO:∀w,(sizeOf e).run P w=.ok size w
 DH:∀w,∃i,(typeInfo e).run P w=.ok i w/\i.bytes=bytes
 Aq:∀w,(zeroValue e).run P w=.ok z w
 vZ:z.cells.size=size
 pos:1<=size
 small:bytes<=4096
theorem TU (c:Array Value):Builtin.zeroCells c 0=#[]:=by simp [Builtin.zeroCells]
theorem akx {t u e:TypeId} {size bytes:Nat} {k:IntKind} {z:Value} (H:GO P t u e size bytes k z) {n:Nat} (aI:n<=100000) {ty:TypeId} {w w':World} {A:Option Addr} {dX hb:Nat} (ga:dX+n<=hb)
 (eJ:∀a,A=some a->(storeCells (a.add (dX * size)) (Builtin.zeroCells z.cells n).toList).run P w=.ok () w') (e9:A=none->w'=w):
 (Builtin.append_ #[t,u] ty #[.slice A dX hb,.int .i64 n]).run P w=.ok (.slice A (dX+n) hb) w':=by
 have hw:IntKind.i64.wrap (n:Int)=n:=by unfold IntKind.wrap;simp [IntKind.bits,IntKind.signed];omega
 obtain ⟨i,aJ,sn⟩:=H.DH w;have vb:¬(281474976710656 < (n:Int) * (i.bytes:Int)):=by rw [sn];have ad:n * bytes<=100000 * 4096:=Nat.mul_le_mul aI H.small;have ag:((n * bytes:Nat):Int)=(n:Int) * (bytes:Int):=Int.natCast_mul _ _;omega
 have EG:¬((n:Int)<0):=by omega
 have dH:size≠0:=by have:=H.pos;omega
 have b5:∀w,(asInt (.int .i64 (n:Int))).run P w=.ok (n:Int) w:=fun w=>by simp [asInt,asIntOf]
 have y7:∀w,(asInt (.int .i64 0)).run P w=.ok 0 w:=fun w=>by simp [asInt,asIntOf]
 have zp:IntKind.i64.wrap 0=0:=by decide
 cases A with
 | none=>
   have:=e9 rfl;subst this;by_cases aM:n=0
   . subst aM;simp [Builtin.append_,H.ut,H.uD,H.sO,y7,aJ,zp,(show dX<=hb from by omega)]
   . simp [Builtin.append_,H.ut,H.uD,H.sO,H.Aq,b5,aJ,vb,hw,ga,EG,dH,aM]
 | some a=>
   have:=eJ a rfl;by_cases aM:n=0
   . subst aM;rw [TU] at this;simp [Builtin.append_,H.ut,H.uD,H.sO,y7,aJ,zp,(show dX<=hb from by omega),this]
   . simp [Builtin.append_,H.ut,H.uD,H.sO,H.Aq,b5,aJ,vb,hw,ga,EG,Nat.mul_ne_zero aM dH,this]
theorem aky {t u e:TypeId} {size bytes:Nat} {k:IntKind} {z:Value} (H:GO P t u e size bytes k z) {n:Nat} (aI:n<=100000) {ty:TypeId} {w:World} (A:Option Addr) (dX hb:Nat) (cu:List Value)
 (hold:∀w':World,w'.heap=w.heap->(Builtin.firstCells size dX (.slice A dX hb)).run P w'=.ok cu.toArray w') (ga:¬dX+n<=hb) (B4:dX+n<=top) (bG:cu.length=dX * size) (aG:(Builtin.zeroCells z.cells n).toList.length=n * size):
 ∃cap rest w',dX+n<=cap/\cap * size<=((cu++(Builtin.zeroCells z.cells n).toList).toArray++rest).size/\
  (Builtin.append_ #[t,u] ty #[.slice A dX hb,.int .i64 n]).run P w=.ok (.slice (some ⟨w.heap.size,0,none⟩) (dX+n) cap) w'/\
  w'.heap=w.heap.push (.cells ((cu++(Builtin.zeroCells z.cells n).toList).toArray++rest) e)/\w'.os=w.os/\w'.tape=w.tape/\w'.output=w.output:=by
 have hw:IntKind.i64.wrap (n:Int)=n:=by simp only [IntKind.wrap,IntKind.bits,IntKind.signed];simp;omega
 obtain ⟨i,aJ,sn⟩:=H.DH w;have nb:P.info? e=some i:=by
  simp only [typeInfo,Sem.run_bind,run_program,Result.andThen_ok] at aJ;cases aH:P.info? e with
  | none=>rw [aH] at aJ;simp at aJ
  | some j=>rw [aH] at aJ;simp at aJ;rw [aJ]
 have w7:∀w',(typeInfo e).run P w'=.ok i w':=fun w'=>z_ nb w';have ad7:¬(281474976710656 < (n:Int) * (i.bytes:Int)):=by rw [sn];have ad:n * bytes<=100000 * 4096:=Nat.mul_le_mul aI H.small;have ag:((n * bytes:Nat):Int)=(n:Int) * (bytes:Int):=Int.natCast_mul _ _;omega
 have vb:¬(281474976710656<Builtin.nextslicecap (dX+n) hb * i.bytes):=by
  have ad:hb<dX+n:=by omega
  have:=growslice_fits (bytes:=i.bytes) ad (by rw [sn];have ag:(dX+n) * bytes<=top * 4096:=Nat.mul_le_mul B4 H.small;unfold top at ag;omega);omega
 have jH:¬(9223372036854775807 < ((dX:Int) + (n:Int))):=by unfold top at B4;omega
 have EG:¬((n:Int)<0):=by omega
 have dH:size≠0:=by have:=H.pos;omega
 have b5:∀w,(asInt (.int .i64 (n:Int))).run P w=.ok (n:Int) w:=fun w=>by simp [asInt,asIntOf]
 have y7:∀w,(asInt (.int .i64 0)).run P w=.ok 0 w:=fun w=>by simp [asInt,asIntOf]
 have zp:IntKind.i64.wrap 0=0:=by decide
 let q:Question:=.appendCap (dX+n) hb e
 let cap:=q.cut (w.tape w.drawn q)
 have o1:dX+n<=cap:=by show dX+n<=(dX+n)+_;omega
 refine ⟨cap,Builtin.zeroCells z.cells (cap - (dX+n)),w.drew.alloc (.cells ((cu++(Builtin.zeroCells z.cells n).toList).toArray++Builtin.zeroCells z.cells (cap - (dX+n))) e),o1,?_,?_,rfl,rfl,rfl,rfl⟩
 . simp only [Array.size_append,List.size_toArray,aoL,bG,aG];have:(Builtin.zeroCells z.cells (cap - (dX+n))).size=(cap - (dX+n)) * size:=by simp [Builtin.zeroCells,H.vZ]
   rw [this,<-Nat.add_mul,<-Nat.add_mul];exact apj _ (by omega)
 . have f2:=hold w.drew rfl;by_cases aM:n=0
   . subst aM;have B2:¬dX<=hb:=by omega
     have ach:¬(9223372036854775807 < (dX:Int)):=by omega
     rw [apO] at vb;simp [Builtin.append_,H.ut,H.uD,H.sO,H.Aq,y7,zp,w7,B2,vb,ach,Question.forced,f2,newRow];refine ⟨rfl,?_⟩;have aO:(cu++(Builtin.zeroCells z.cells 0).toList).toArray=cu.toArray:=by rw [TU];simp
     rw [aO];rfl
   . simp [Builtin.append_,H.ut,H.uD,H.sO,H.Aq,b5,hw,ad7,EG,Nat.mul_ne_zero aM dH,ga,w7,vb,jH,Question.forced,f2,newRow];refine ⟨rfl,?_⟩;have aO:(cu++(Builtin.zeroCells z.cells n).toList).toArray=cu.toArray++Builtin.zeroCells z.cells n:=by simp
     rw [aO,Array.append_assoc]
end
section
variable {P:Program}
abbrev aq (rd:Option Nat):Fence:={fn:=fun _=>True,depth:=none,alive:=false,round:=rd}
theorem r7 {rd:Option Nat} {n:Nat} {f:FuncId} {args:Array Value} {w:World} {R:Ending->World->Prop}:CallsIn (aq rd) n P f args w R↔Calls P f args w R:=callsIn_wide
theorem SP {rd:Option Nat} (n:Nat):(aq rd).room n:=fun _ h=>by simp [aq] at h
abbrev nS (x:Value):List PanicEntry:=[{v:=x,recovered:=false}]
structure iq (P:Program) (call:gB):Prop where
 fn:∀(aA:Fr) f args h v ae,f≠eA->call f args h=.val v ae->∀E w xs,bH E args xs->bD aA E h w->
  ((∃fn,P.funcs[f]? =some fn/\fn.body.isSome=true)/\Calls P f xs.toArray w fun e w'=>∃aw x,e=.returned x/\E.le aw/\Rel aw v x/\bD aA aw ae w')\/
  ∃aw x w',(callFunc f xs.toArray).run P w=.ok (.value x) w'/\E.le aw/\Rel aw v x/\bD aA aw ae w'
 fY:∀(aA:Fr) f args h v ae,f≠eA->call f args h=.fY v ae->∀E w xs,bH E args xs->bD aA E h w->
  (∃fn,P.funcs[f]? =some fn/\fn.body.isSome=true)/\Calls P f xs.toArray w fun e w'=>∃aw x,e=.panicked (nS x)/\E.le aw/\Rel aw v x/\bD aA aw ae w'
 amM:∀(aA:Fr) args b h v ae,call eA (args++[.ptr b 0]) h=.val v ae->∀E w xs p,bH E args xs->bD aA E h w->E b=some p->
  ∃f tmps assign body,(Instr.yield p.bp xs.toArray).run P w=.ok (.round p.bp f tmps assign body) w/\
   RoundIn (aq none) 0 P p.bp f tmps assign body w fun e w'=>∃aw x,e=.returned x/\E.le aw/\Rel aw v x/\bD aA aw ae w'
 amN:∀args h v ae,call eA args h≠.fY v ae
theorem rP {rd:Option Nat} {o:Oper} (EE:∀c,o.op≠.defer c) (ρ:Operand->Value):o.semAt (aq rd).round ρ=execOp ρ o:=Oper.semAt_eq _ ρ o EE
theorem h5 {rd:Option Nat} {o:Oper} {a:Act} {w:World} {aA:Fr} {E:Env} {ae:ah} {v:V} {m:Sem Value} {K:Act->World->Prop} {Q:Exit->Act->World->Prop}
 (au:execOp a.eval o=(do pure (.value (<-m)))) (g:eo aA P E w m v ae) (ez:∀aw x w',E.le aw->Rel aw v x->bD aA aw ae w'->K (a.put o.dst x) w') (EE:∀c,o.op≠.defer c:=by intro c h;cases h):
 o.wpIn (aq rd) 0 P a w K Q:=by
 obtain ⟨Z,w',aw,ad,ag,ar,aT⟩:=g;refine ⟨fun _ _=>trivial,?_⟩;rw [rP EE,au,Sem.run_bind,ad];exact ez aw Z w' ag ar aT
theorem Fp {E:Env} {aL:Nat} {r:c7} {a:Act} (k:RegRel0 E aL r a):∀l:List (Nat × Operand),s5 E ((vG l).run r) (l.map fun (i,x)=>(i,a.eval x))
 | []=>rfl
 | (i,x)::l=>by simp only [vG,List.map,s5];exact ⟨_,_,rfl,e8 k x,Fp k l⟩
theorem Fk {E:Env} {aL:Nat} {r:c7} {a:Act} (k:RegRel0 E aL r a) (x:Option Operand):jD E ((sJ x).run r) (x.map a.eval):=by
 cases x with
 | none=>rfl
 | some x=>simp only [sJ,jD,Option.map];exact ⟨_,rfl,e8 k x⟩
theorem ahT {v:V} {f:aN->Nat->bh} {r:V} {h:ah} (he:v.lG .fail f=.val r h):∃b off,v=.ptr b off/\f b off=.val r h:=by
 cases v<;>simp only [V.lG] at he<;>first
  | (cases he;done)
  | exact ⟨_,_,rfl,he⟩
theorem ahu {aA:Fr} {E:Env} {h ae:ah} {w:World} (s:bD aA E h w) {x v:V} {X:Value} {ty:TypeId} (au:Rel E x X) (he:xI x h=.val v ae):eo aA P E w (Instr.next X true ty) v ae:=by
 unfold xI at he;obtain ⟨b,off,rfl,ad⟩:=ahT he;have ai:=s.at (p:=_) (by simp only [Rel] at au;exact au.choose_spec.1);cases ay:h.get b with
 | dead=>rw [ay] at ad;cases ad
 | view _ _=>rw [ay] at ad;cases ad
 | cells _ _ _ _=>rw [ay] at ad;cases ad
 | mp _ _=>rw [ay] at ad;cases ad
 | hH _=>rw [ay] at ad;cases ad
 | h'=>rw [ay] at ad;cases ad
 | l6 _=>rw [ay] at ad;cases ad
 | k_ _ _ _ _=>rw [ay] at ad;cases ad
 | iter st pos=>
   rw [ay] at ad ai;simp only at ad;obtain ⟨aM,ag⟩:=n2 ad;rw [ao8] at aM;subst aM;obtain ⟨p,aF,cd,sg,bP⟩:=ai;simp only [Rel] at au;obtain ⟨q,aH,rfl⟩:=au;rw [aF] at aH;cases aH;have f_:(getObj p.bp).run P w=.ok (.stringIter ⟨⟨st⟩⟩ pos) w:=by simp only [getObj,Sem.run,bP]
   have dH:(⟨⟨st⟩⟩:ByteArray).size=st.length:=rfl;cases a7:Nat.blt pos st.length with
   | true=>
     rw [a7] at ag;simp only [aoJ,bh.val.injEq] at ag;obtain ⟨rfl,rfl⟩:=ag;rw [ape] at a7
     let dV:Obj:=.stringIter ⟨⟨st⟩⟩ (pos + (decodeL st pos).2)
     let w':World:={w with heap:=w.heap.setIfInBounds p.bp dV}
     have o9:=(aoD.1 bP).1;have tK:(setObj p.bp dV).run P w=.ok () w':=by simp only [setObj,Sem.run,bP];rfl
     refine ⟨.tuple #[.bool true,goInt pos,.int .i32 (decodeL st pos).1],w',E,?_,Env.le.refl E,?_,s.set (p:=p) (by rw [ay];rfl) aF cd (by simp [w']) (fun j cW=>?_) rfl rfl rfl (fun _ _ _ e=>by cases e) ?_⟩
     . simp only [Instr.next,sg,Sem.run_bind,f_,Result.andThen_ok,dH,aoN a7];have:(Utf8.decode (⟨⟨st⟩⟩:ByteArray) pos)=decodeL st pos:=rfl;simp only [this];rw [tK];rfl
     . simp only [Rel,bH];exact ⟨_,rfl,_,_,rfl,rfl,_,_,rfl,rfl,_,_,rfl,rfl,rfl⟩
     . simp only [w',aoY];rw [aoI (fun e=>cW e.symm)]
     . exact ⟨p,aF,cd,sg,by simp [w',o9,dV]⟩
   | false=>
     rw [a7] at ag;simp only [aoP,bh.val.injEq] at ag;obtain ⟨rfl,rfl⟩:=ag;have kF:¬pos<st.length:=by rw [<-Nat.blt_eq,a7];simp
     refine eo.plain (Z:=.tuple #[.bool false]) s ?_ ?_
     . simp only [Instr.next,sg,Sem.run_bind,f_,Result.andThen_ok,dH,aoI kF,Sem.run_pure]
     . simp only [Rel,bH];exact ⟨_,rfl,_,_,rfl,rfl,rfl⟩
theorem aka {aA:Fr} {E:Env} {h ae:ah} {w:World} (s:bD aA E h w) {t:TypeId} {x v:V} {X:Value} (au:Rel E x X) (he:(FF P t).run x h=.val v ae):eo aA P E w (Instr.range t X) v ae:=by
 unfold FF at he;cases az:bf P t with
 | none=>rw [az] at he;cases he
 | some aS=>
   rw [az] at he;simp only at he;have hu:=ha az;cases cC:aS.bw with
   | string=>
     rw [cC] at he hu;simp only at he;cases x<;>simp only at he<;>try (cases he;done)
     rename_i st;simp only [bh.val.injEq] at he;obtain ⟨rfl,rfl⟩:=he;have:=au.uv;subst this;have e9:=s.fresh h.next (aoz _)
     have fe:E.put (ao h.next) ⟨w.heap.size,0,0⟩ (ao h.next)=some ⟨w.heap.size,0,0⟩:=by unfold Env.put;rw [aoN rfl]
     refine ⟨.pointer (some ⟨w.heap.size,0,none⟩),{w with heap:=w.heap.push (.stringIter ⟨⟨st⟩⟩ 0)},_,?_,Env.pS (p:=⟨w.heap.size,0,0⟩) e9,?_,s.alloc 0 ?_⟩
     . simp only [Instr.range,Sem.run_bind,hu,Result.andThen_ok,Sem.run_pure,run_newObj]
     . simp only [Rel];exact ⟨_,fe,by simp⟩
     . exact ⟨_,fe,s.frame.size,rfl,by simp⟩
   | map ek mS=>
     rw [cC] at he hu;exact akb s (hu w) au he
   | _=>rw [cC] at he;cases he
theorem VM {aA:Fr} {E:Env} {h ae:ah} {w:World} (s:bD aA E h w) {t u:TypeId} {x y v:V} {X Y:Value} {ty:TypeId}
 (he:(Dy P t u).run x y h=.val v ae) (au:Rel E x X) (bl:Rel E y Y):eo aA P E w (Builtin.append_ #[t,u] ty #[X,Y]) v ae:=by
 unfold Dy at he;cases az:bf P t with
 | none=>rw [az] at he;cases he
 | some aS=>
   cases hu:bf P u with
   | none=>rw [az,hu] at he;cases he
   | some uB=>
     rw [az,hu] at he;simp only at he
     have main:(∀k,uB.bw≠.int k)->(match aS.bw with
      | .slice e=>match bf P e with
        | none=>(⟨fun _ _ _=>.fail⟩:Au)
        | some bo=>match bo.zero with
          | none=>⟨fun _ _ _=>.fail⟩
          | some z=>bif Nat.ble 1 bo.size&&Nat.ble bo.bytes 4096&&Nat.beq z.cells.length bo.size then ⟨kj bo.size⟩ else ⟨fun _ _ _=>.fail⟩
      | _=>⟨fun _ _ _=>.fail⟩).run x y h=.val v ae->eo aA P E w (Builtin.append_ #[t,u] ty #[X,Y]) v ae:=by
      intro vk he;cases cC:aS.bw with
      | slice e=>
        rw [cC] at he;simp only at he;cases df:bf P e with
        | none=>rw [df] at he;cases he
        | some bo=>
          rw [df] at he;simp only at he;cases bN:bo.zero with
          | none=>rw [bN] at he;cases he
          | some z=>
            rw [bN] at he;simp only at he;cases ax:(Nat.ble 1 bo.size&&Nat.ble bo.bytes 4096&&Nat.beq z.cells.length bo.size) with
            | false=>rw [ax] at he;cases he
            | true=>
              rw [ax] at he;simp only [aoJ] at he;simp only [aoE,aoT,ao8] at ax;obtain ⟨nv,xm,_,qv⟩:=uK (P:=P) (E:=E) df bN w;refine VO s ⟨fun w=>?_,⟨uB.bw,fun w=>ha hu w,vk⟩,fun w=>lM df w,fun w=>FO df w,⟨nv,xm,by rw [qv];exact ax.2⟩,ax.1.1,ax.1.2⟩ he au bl;have:=ha az w;rw [cC] at this;exact this
      | _=>rw [cC] at he;cases he
     cases zn:uB.bw with
     | int k=>
       rw [zn] at he;simp only at he;cases cC:aS.bw with
       | slice e=>
         rw [cC] at he;simp only at he;cases df:bf P e with
         | none=>rw [df] at he;cases he
         | some bo=>
           rw [df] at he;simp only at he;cases bN:bo.zero with
           | none=>rw [bN] at he;cases he
           | some z=>
             rw [bN] at he;simp only at he;cases ax:(Nat.ble 1 bo.size&&Nat.ble bo.bytes 4096&&Nat.beq z.cells.length bo.size) with
             | false=>rw [ax] at he;cases he
             | true=>
               rw [ax] at he;simp only [aoJ] at he;simp only [aoE,aoT,ao8] at ax;obtain ⟨nv,xm,Jj,qv⟩:=uK (P:=P) (E:=E) df bN w;have zo:∀w,(underlying t).run P w=.ok (.slice e) w:=fun w=>by have:=ha az w;rw [cC] at this;exact this
               have I':∀w,(underlying u).run P w=.ok (.int k) w:=fun w=>by have:=ha hu w;rw [zn] at this;exact this
               have H:GO P t u e bo.size bo.bytes k nv:=⟨zo,I',fun w=>lM df w,fun w=>FO df w,xm,by rw [qv];exact ax.2,ax.1.1,ax.1.2⟩;unfold GS at he
               split at he
               case h_2=>cases he
               rename_i dL m
               split at he
               case h_2=>cases he
               rename_i n;obtain ⟨pI,bZ⟩:=n2 he;simp only [aoE,aoT] at pI;have aD:=yS pI.1;subst aD;simp only [Rel] at bl;subst bl;have Qu:=z7 Jj n;have hlen:(kP z.cells n).length=n * bo.size:=by rw [<-Qu.length];simp [Builtin.zeroCells,qv,ax.2]
               exact VP s ax.1.1 Qu hlen (by have:=pI.2;unfold top;omega) (fun w' A dX hb a b c=>akx H pI.2 a b c) (fun A dX hb cu a b c d f=>aky H pI.2 A dX hb cu a b c d f) bZ au
       | _=>rw [cC] at he;cases he
     | _=>rw [zn] at he;exact main (by rw [zn];simp) he
theorem ZG {aA:Fr} {E:Env} {h ae:ah} {w:World} (s:bD aA E h w) {t:TypeId} {rest:List TypeId} {x y v:V} {X Y:Value} {ty:TypeId}
 (he:(DO P t).run x y h=.val v ae) (au:Rel E x X) (bl:Rel E y Y):eo aA P E w (Builtin.copy_ (t::rest).toArray ty #[X,Y]) v ae:=by
 unfold DO at he;cases az:bf P t with
 | none=>rw [az] at he;cases he
 | some aS=>
   rw [az] at he;simp only at he;cases cC:aS.bw with
   | slice e=>
     rw [cC] at he;simp only at he;cases df:bf P e with
     | none=>rw [df] at he;cases he
     | some bo=>
       rw [df] at he;simp only at he;exact ZH s (fun w=>by have:=ha az w;rw [cC] at this;exact this) (fun w=>lM df w) he au bl
   | _=>rw [cC] at he;cases he
theorem Zl {aA:Fr} {E:Env} {h ae:ah} {w:World} (s:bD aA E h w) {t:TypeId} {x v:V} {X:Value} {ty:TypeId} {z:List V} (ax:Bd P t=some z)
 (he:DN z x h=.val v ae) (au:Rel E x X):eo aA P E w (Builtin.clear_ #[t] ty #[X]) v ae:=by
 unfold Bd at ax;cases az:bf P t with
 | none=>rw [az] at ax;cases ax
 | some aS=>
   rw [az] at ax;simp only at ax;cases cC:aS.bw with
   | slice e=>
     rw [cC] at ax;simp only at ax;cases df:bf P e with
     | none=>rw [df] at ax;cases ax
     | some bo=>
       rw [df] at ax;simp only at ax;cases bN:bo.zero with
       | none=>rw [bN] at ax;cases ax
       | some z0=>
         rw [bN] at ax;simp only [aoC] at ax;subst ax;have hu:∀w,(underlying t).run P w=.ok (.slice e) w:=fun w=>by have:=ha az w;rw [cC] at this;exact this
         obtain ⟨z,oq,Jj,QH⟩:=uK (P:=P) (E:=E) df bN w;have nothing:∀a c,X=.slice a 0 c->v=.tuple []->ae=h->eo aA P E w (Builtin.clear_ #[t] ty #[X]) v ae:=by
          intro a c dp bZ bP;subst dp bZ bP;refine ⟨.tuple #[],w,E,?_,Env.le.refl E,?_,s⟩
          . cases a<;>simp [Builtin.clear_,Sem.run_bind,hu,Result.andThen_ok,Sem.run_pure]
          . simp only [Rel];exact ⟨_,rfl,rfl⟩
         have S6:∀(b:aN) (off n c:Nat) (p:kB),E b=some p->X=.slice (some ⟨p.bp,p.base+off,none⟩) n c->(bif Nat.beq n 0 then (bh.val (.tuple []) h) else (match lay h b off (kP z0.cells n) with
          | some ae=>bh.val (.tuple []) ae
          | none=>.fail))=.val v ae->eo aA P E w (Builtin.clear_ #[t] ty #[X]) v ae:=by
          intro b off n c p aF dp he;cases n with
          | zero=>
            simp only [Nat.beq_refl,aoJ,bh.val.injEq] at he;exact nothing _ _ dp he.1.symm he.2.symm
          | succ n=>
            simp only [show Nat.beq (n+1) 0=false from rfl,aoP] at he;cases aG:lay h b off (kP z0.cells (n+1)) with
            | none=>rw [aG] at he;cases he
            | some ad=>
              rw [aG] at he;simp only [bh.val.injEq] at he;obtain ⟨rfl,rfl⟩:=he;obtain ⟨w',g1,g2⟩:=zD (P:=P) s (z7 Jj (n+1)) aG aF;subst dp;refine ⟨.tuple #[],w',E,?_,Env.le.refl E,?_,g2⟩
              . simp only [Builtin.clear_,Sem.run_bind,List.getElem?_toArray,aoR,hu,oq,Result.andThen_ok];have:(storeCells ⟨p.bp,p.base+off,none⟩ (Builtin.zeroCells z.cells (n+1)).toList).run P w=.ok () w':=g1;simp [this,Sem.run_pure,Result.andThen_ok]
              . simp only [Rel];exact ⟨_,rfl,rfl⟩
         unfold DN at he;cases x<;>simp only at he<;>try (cases he;done)
         . simp only [Rel] at au;obtain ⟨p,g1,g2,g3⟩:=au;exact S6 _ _ _ _ p g1 g3 he
         . simp only [Rel] at au;obtain ⟨p,g1,g2,g3⟩:=au;exact S6 _ _ _ _ p g1 g3 he
         . simp only [Rel] at au;obtain ⟨a,c,rfl⟩:=au;simp only [bh.val.injEq] at he;exact nothing _ _ rfl he.1.symm he.2.symm
         . simp only [Rel] at au;simp only [bh.val.injEq] at he;exact nothing _ _ au he.1.symm he.2.symm
   | _=>rw [cC] at ax;cases ax
theorem YW {E:Env} {t:TypeId} {aS:pB} {x v:V} {X:Value} {ty:TypeId} (az:bf P t=some aS) (al:Ce aS.bw=true) (he:A' x=some v) (au:Rel E x X) (w:World):
 ∃Z,(Builtin.cap_ #[t] ty #[X]).run P w=.ok Z w/\Rel E v Z:=by
 cases cC:aS.bw with
 | slice e=>
   have hu:∀w,(underlying t).run P w=.ok (.slice e) w:=fun w=>by have:=ha az w;rw [cC] at this;exact this
   cases x<;>simp only [A'] at he<;>try (cases he;done)
   . simp only [Rel] at au;obtain ⟨p,_,_,rfl⟩:=au;cases he;refine ⟨_,?_,rfl⟩;simp [Builtin.cap_,Sem.run_bind,hu,Result.andThen_ok,Sem.run_pure];rfl
   . simp only [Rel] at au;subst au;cases he;refine ⟨_,?_,rfl⟩;simp [Builtin.cap_,Sem.run_bind,hu,Result.andThen_ok,Sem.run_pure];rfl
 | _=>rw [cC] at al;cases al
theorem C7 {α:Type} (a:Array α):a.toList.toArray=a:=by simp
theorem WG {aA:Fr} {E:Env} {h ae:ah} {w:World} (s:bD aA E h w) {b:Builtin} {dE:Array TypeId} {args:List V} {xs:List Value} {v:V} {ty:TypeId} {cs:Array Bool} (aG:bH E args xs)
 (he:(r3 P b dE.toList).run args h=.val v ae):∃m:Sem Value,Go.builtin b dE ty cs xs.toArray=(do pure (.value (<-m)))/\eo aA P E w m v ae:=by
 have one:∀{x:V},bH E [x] xs->∃X,xs=[X]/\Rel E x X:=by intro x h;simp only [bH] at h;obtain ⟨y,en,rfl,bl,rfl⟩:=h;exact ⟨y,rfl,bl⟩
 have two:∀{x y:V},bH E [x,y] xs->∃X Y,xs=[X,Y]/\Rel E x X/\Rel E y Y:=by intro x y h;simp only [bH] at h;obtain ⟨X,_,rfl,dp,Y,_,rfl,g_,rfl⟩:=h;exact ⟨X,Y,rfl,dp,g_⟩
 cases b<;>simp only [r3] at he<;>try (simp [hL.none] at he;done)
 . -- append
   cases gu:dE.toList with
   | nil=>rw [gu] at he;simp [hL.none] at he
   | cons t ux=>
     rw [gu] at he;cases ux with
     | nil=>simp [hL.none] at he
     | cons u alM=>
       cases alM with
       | cons _ _=>simp [hL.none] at he
       | nil=>
         simp only at he
         match args,he,aG with
         | [x,y],he,aG=>
           obtain ⟨X,Y,rfl,dp,g_⟩:=two aG;have e:dE=#[t,u]:=by rw [<-C7 dE,gu]
           exact ⟨_,rfl,by rw [e];exact VM s he dp g_⟩
         | [],he,_=>cases he
         | [_],he,_=>cases he
         | _::_::_::_,he,_=>cases he
 . -- cap
   cases gu:dE.toList with
   | nil=>rw [gu] at he;simp [hL.none] at he
   | cons t ux=>
     rw [gu] at he;cases ux with
     | cons _ _=>simp [hL.none] at he
     | nil=>
       simp only at he;cases az:bf P t with
       | none=>rw [az] at he;simp [hL.none] at he
       | some aS=>
         rw [az] at he;simp only at he;cases al:Ce aS.bw with
         | false=>rw [al] at he;simp [hL.none] at he
         | true=>
           rw [al] at he;simp only [aoJ] at he
           match args,he,aG with
           | [x],he,aG=>
             obtain ⟨X,rfl,dp⟩:=one aG;have e:dE=#[t]:=by rw [<-C7 dE,gu]
             obtain ⟨fs,rfl⟩:=bh.ka he;obtain ⟨Z,hv,c1⟩:=YW (P:=P) (ty:=ty) az al fs dp w;exact ⟨_,rfl,by rw [e];exact eo.plain s hv c1⟩
           | [],he,_=>cases he
           | _::_::_,he,_=>cases he
 . -- clear
   cases gu:dE.toList with
   | nil=>rw [gu] at he;simp [hL.none] at he
   | cons t ux=>
     rw [gu] at he;cases ux with
     | cons _ _=>simp [hL.none] at he
     | nil=>
       simp only at he;cases ax:Bd P t with
       | none=>rw [ax] at he;simp [hL.none] at he
       | some z=>
         rw [ax] at he;simp only at he
         match args,he,aG with
         | [x],he,aG=>
           obtain ⟨X,rfl,dp⟩:=one aG;have e:dE=#[t]:=by rw [<-C7 dE,gu]
           exact ⟨_,rfl,by rw [e];exact Zl s ax he dp⟩
         | [],he,_=>cases he
         | _::_::_,he,_=>cases he
 . -- copy
   cases gu:dE.toList with
   | nil=>rw [gu] at he;simp [hL.none] at he
   | cons t ux=>
     rw [gu] at he;simp only at he
     match args,he,aG with
     | [x,y],he,aG=>
       obtain ⟨X,Y,rfl,dp,g_⟩:=two aG;have e:dE=(t::ux).toArray:=by rw [<-C7 dE,gu]
       exact ⟨_,rfl,by rw [e];exact ZG s he dp g_⟩
     | [],he,_=>cases he
     | [_],he,_=>cases he
     | _::_::_::_,he,_=>cases he
 . -- len
   cases gu:dE.toList with
   | nil=>rw [gu] at he;simp [hL.none] at he
   | cons t ux=>
     rw [gu] at he;cases ux with
     | cons _ _=>simp [hL.none] at he
     | nil=>
       simp only at he;cases az:bf P t with
       | none=>rw [az] at he;simp [hL.none] at he
       | some aS=>
         rw [az] at he;simp only at he
         match args,he,aG with
         | [x],he,aG=>
           obtain ⟨X,rfl,dp⟩:=one aG;have e:dE=[t].toArray:=by rw [<-C7 dE,gu]
           cases hm:vs aS.bw with
           | true=>
             rw [hm] at he;exact ⟨_,rfl,by rw [e];exact agA s az hm dp ty [] he⟩
           | false=>
             rw [hm] at he;simp only [aoP] at he;obtain ⟨fs,rfl⟩:=bh.ka he;obtain ⟨Z,hv,c1⟩:=agB (P:=P) az fs dp ty [] w;exact ⟨_,rfl,by rw [e];exact eo.plain s hv c1⟩
         | [],he,_=>cases hm:vs aS.bw<;>rw [hm] at he<;>cases he
         | _::_::_,he,_=>cases hm:vs aS.bw<;>rw [hm] at he<;>cases he
 . -- max
   obtain ⟨fs,rfl⟩:=bh.ka he;clear he;cases args with
   | nil=>cases fs
   | cons x args=>
     simp only [mF] at fs;obtain ⟨k,a,rfl,ad⟩:=lF fs;simp only [bH] at aG;obtain ⟨X,en,rfl,dp,aG⟩:=aG;have:=dp.kq;subst this;obtain ⟨Z,hv,c1⟩:=Kp (P:=P) false args en k a v aG ad w;exact ⟨_,rfl,eo.plain (Z:=Z) s (by simpa [Builtin.max_] using hv) c1⟩
 . -- min
   obtain ⟨fs,rfl⟩:=bh.ka he;clear he;cases args with
   | nil=>cases fs
   | cons x args=>
     simp only [mF] at fs;obtain ⟨k,a,rfl,ad⟩:=lF fs;simp only [bH] at aG;obtain ⟨X,en,rfl,dp,aG⟩:=aG;have:=dp.kq;subst this;obtain ⟨Z,hv,c1⟩:=Kp (P:=P) true args en k a v aG ad w;exact ⟨_,rfl,eo.plain (Z:=Z) s (by simpa [Builtin.min_] using hv) c1⟩
end
section
variable {P:Program}
def hh (P:Program):Prop:=∀(f:FuncId) (fn:Func),P.funcs[f]? =some fn->(fn.name == "runtime.NumGoroutine")=false
theorem vN (cQ:hh P) {f:FuncId} {fn:Func} (aE:P.funcs[f]? =some fn) (ai:fn.body.isSome=true) (args:Array Value) (w:World):(callFunc f args).run P w=.ok (.enter f args) w:=by
 have iA:fn.body.isNone=false:=by cases h:fn.body with | none=>rw [h] at ai;cases ai | some c=>rfl
 simp only [callFunc,Sem.run_bind,run_program,Result.andThen_ok,aE];rw [aoI (by rw [cQ f fn aE];simp)];simp [iA]
theorem JG {α β:Type} (f:α->β) (a:Array α):a.map f=(a.toList.map f).toArray:=by apply apW;simp
theorem Kk (ρ:Operand->Value) (bK:Array (Nat × Operand)):(bK.map fun (i,x)=>(i,ρ x))=(bK.toList.map fun (i,x)=>(i,ρ x)).toArray:=by apply apW;simp
theorem V5 {E:Env} {t vY:TypeId} {aS:pB} {ok:Bool} {x v:V} {X:Value} (az:bf P t=some aS) (ai:Nat.beq (gw aS.bw) 5=false) (au:Rel E x X)
 (he:wq t aS.zero ok x=some v) (w:World):∃Z,(Instr.typeAssert X vY t ok).run P w=.ok Z w/\Rel E v Z:=by
 have hu:=ha az w;have vk:∀ms,aS.bw≠.interface ms:=fun ms e=>by rw [e] at ai;simp [gw] at ai
 have zero:∀z,aS.zero=some z->∃x,(zeroValue t).run P w=.ok x w/\Rel E z x:=fun z bN=>by obtain ⟨x,ad,ag,_⟩:=Aa (P:=P) az bN E w;exact ⟨x,ad,ag⟩
 unfold wq at he;cases x<;>simp only at he<;>try (cases he;done)
 case iface u y=>
  simp only [Rel] at au;obtain ⟨Y,rfl,g_⟩:=au;rw [oR] at he;by_cases zo:u=t
  . rw [aoN zo] at he;simp only [aoC] at he;subst zo;cases ok with
    | true=>
      simp only [aoJ] at he;subst he;refine ⟨.tuple #[Y,.bool true],?_,by simp only [Rel,bH];exact ⟨_,rfl,_,_,rfl,g_,_,_,rfl,rfl,rfl⟩⟩;simp only [Instr.typeAssert,Sem.run_bind,hu,Result.andThen_ok];cases cC:aS.bw<;>first
       | exact absurd cC (vk _)
       | (simp only [aoM];rfl)
    | false=>
      simp only [aoP] at he;subst he;refine ⟨Y,?_,g_⟩;simp only [Instr.typeAssert,Sem.run_bind,hu,Result.andThen_ok];cases cC:aS.bw<;>first
       | exact absurd cC (vk _)
       | (simp only [aoM];rfl)
  . rw [aoI zo] at he;cases ok with
    | false=>cases he
    | true=>
      simp only [aoJ] at he;cases bN:aS.zero with
      | none=>rw [bN] at he;cases he
      | some z=>
        rw [bN] at he;simp only [aoC] at he;subst he;obtain ⟨cG,c0,z2⟩:=zero z bN;refine ⟨.tuple #[cG,.bool false],?_,by simp only [Rel,bH];exact ⟨_,rfl,_,_,rfl,z2,_,_,rfl,rfl,rfl⟩⟩;simp only [Instr.typeAssert,Sem.run_bind,hu,Result.andThen_ok];cases cC:aS.bw<;>first
         | exact absurd cC (vk _)
         | (simp only [aoI zo,aoM,Sem.run_bind,c0,Result.andThen_ok];rfl)
 case nilIface=>
  simp only [Rel] at au;subst au;cases ok with
  | false=>cases he
  | true=>
    simp only [aoJ] at he;cases bN:aS.zero with
    | none=>rw [bN] at he;cases he
    | some z=>
      rw [bN] at he;simp only [aoC] at he;subst he;obtain ⟨cG,c0,z2⟩:=zero z bN;refine ⟨.tuple #[cG,.bool false],?_,by simp only [Rel,bH];exact ⟨_,rfl,_,_,rfl,z2,_,_,rfl,rfl,rfl⟩⟩;simp only [Instr.typeAssert,Sem.run_bind,hu,Result.andThen_ok];cases cC:aS.bw<;>first
       | exact absurd cC (vk _)
       | (simp only [aoM,Sem.run_bind,c0,Result.andThen_ok];rfl)
def iC (P:Program) (call:gB):Prop:=∀f args h v ae,call f args h=.val v ae->True
theorem ZF {rd:Option Nat} {aA:Fr} {E:Env} {h ae:ah} {w:World} {call:gB} (cQ:hh P) (fJ:iq P call) (hU:iC P call) {o:Oper} {aL:Nat} {r:c7} {a:Act} {v:V}
 (he:(hN P o).run call r h=.val v ae) (k:RegRel0 E aL r a) (s:bD aA E h w) {K:Act->World->Prop} {Q:Exit->Act->World->Prop}
 (ez:∀aw x w',E.le aw->Rel aw v x->bD aA aw ae w'->K (a.put o.dst x) w'):o.wpIn (aq rd) 0 P a w K Q:=by
 obtain ⟨dst,op,type,pos,after,guard⟩:=o;cases op<;>simp only [hN] at he<;>try (simp [eM.none] at he;done)
 case move x=>
  simp only [bh.val.injEq] at he;obtain ⟨rfl,rfl⟩:=he;exact h5 (m:=pure (a.eval x)) rfl (eo.plain s rfl (e8 k x)) ez
 case assign x=>
  simp only [bh.val.injEq] at he;obtain ⟨rfl,rfl⟩:=he;exact h5 (m:=pure (a.eval x)) rfl (eo.plain s rfl (e8 k x)) ez
 case pick c x y=>
  have ax:=e8 k c;generalize (de c).run r=eu at he ax;cases eu<;>simp only at he<;>try (cases he;done)
  rename_i t;simp only [bh.val.injEq] at he;obtain ⟨rfl,rfl⟩:=he;simp only [Rel] at ax;refine h5 (m:=do pure (if <-asBool (a.eval c) then a.eval x else a.eval y)) (by simp only [execOp,bind_assoc,pure_bind]) (eo.plain (Z:=if t then a.eval x else a.eval y) s ?_ ?_) ez
  . rw [ax];rfl
  . cases t
    . exact e8 k y
    . exact e8 k x
 case alloc t=>
  cases az:bf P t with
  | none=>rw [az] at he;simp [eM.none] at he
  | some aS=>
    rw [az] at he;simp only at he;cases bN:aS.zero with
    | none=>rw [bN] at he;simp [eM.none] at he
    | some z=>
      rw [bN] at he;simp only at he;cases aI:hY h z.cells with
      | none=>rw [aI] at he;cases he
      | some ad=>
        rw [aI] at he;simp only [jc,bh.val.injEq] at he;obtain ⟨rfl,rfl⟩:=he;obtain ⟨x,au,qu,_⟩:=uK (P:=P) (E:=E) az bN w;obtain ⟨aw,g1,g2,g3,g4⟩:=E_ (P:=P) s qu aI t;have HV:(newRow t x.cells).run P w=.ok ⟨w.heap.size,0,none⟩ {w with heap:=w.heap.push (.cells x.cells t)}:=by simpa using g3
        have HW:bD aA aw ad {w with heap:=w.heap.push (.cells x.cells t)}:=by simpa using g4
        exact h5 (m:=Instr.alloc t true (.tuple #[])) rfl ⟨.pointer (some ⟨w.heap.size,0,none⟩),_,aw,by simp only [Instr.alloc,Sem.run_bind,au,Result.andThen_ok,newVar,HV,Sem.run_pure],g1,by simp only [Rel];exact ⟨_,g2,by simp⟩,HW⟩ ez
 case box t x=>
  obtain ⟨ay,he⟩:=n2 he;cases aI:hY h ((de x).run r).cells with
  | none=>rw [aI] at he;cases he
  | some ad=>
    rw [aI] at he;simp only [jc,bh.val.injEq] at he;obtain ⟨rfl,rfl⟩:=he;have aG:=(e8 k x).cells (fun e=>by rw [e] at ay;cases ay);obtain ⟨aw,g1,g2,g3,g4⟩:=E_ (P:=P) s aG aI t;have HV:(newRow t (a.eval x).cells).run P w=.ok ⟨w.heap.size,0,none⟩ {w with heap:=w.heap.push (.cells (a.eval x).cells t)}:=by simpa using g3
    have HW:bD aA aw ad {w with heap:=w.heap.push (.cells (a.eval x).cells t)}:=by simpa using g4
    exact h5 (m:=Instr.box t (a.eval x)) rfl ⟨.pointer (some ⟨w.heap.size,0,none⟩),_,aw,by simp only [Instr.box,Sem.run_bind,newVar,HV,Result.andThen_ok,Sem.run_pure],g1,by simp only [Rel];exact ⟨_,g2,by simp⟩,HW⟩ ez
 case build t bK=>
  obtain ⟨fs,rfl⟩:=bh.ka he;clear he;obtain ⟨Z,hv,c1⟩:=WB (P:=P) (Fp k bK.toList) fs w;refine h5 (m:=Instr.build t (bK.map fun (i,x)=>(i,a.eval x))) rfl (eo.plain (Z:=Z) s ?_ c1) ez;rw [Kk];exact hv
 case buildSlice t n bK=>
  refine h5 (m:=Instr.buildSlice t n (bK.map fun (i,x)=>(i,a.eval x))) rfl ?_ ez;rw [Kk];exact WD s (Fp k bK.toList) he
 case load t x=>
  obtain ⟨fs,rfl⟩:=bh.ka he;clear he;obtain ⟨Y,g_,c1,_⟩:=Rk (P:=P) s (e8 k x) fs;exact h5 (m:=Instr.loadAt t (a.eval x)) rfl (eo.plain s g_ c1) ez
 case store t x y=>
  cases eJ:(ur P t).run h ((de x).run r) ((de y).run r) with
  | none=>rw [eJ] at he;cases he
  | some ad=>
    rw [eJ] at he;simp only [jc,bh.val.injEq] at he;obtain ⟨rfl,rfl⟩:=he;obtain ⟨w',eQ,l4⟩:=alg (P:=P) s (e8 k x) (e8 k y) eJ;refine ⟨fun _ _=>trivial,?_⟩;rw [rP (by intro c h;cases h)];have:execOp a.eval ⟨dst,.store t x y,type,pos,after,guard⟩=(do Instr.storeAt t (a.eval x) (a.eval y);pure .skip):=rfl;rw [this,Sem.run_bind,eQ];exact ez E undef w' (Env.le.refl E) (by simp [Rel]) l4
 case nilCheck x=>
  obtain ⟨fs,rfl⟩:=bh.ka he;clear he;have au:=e8 k x;generalize (de x).run r=yd at fs au
  have f_:∀X,Rel E yd X->(match X with
   | .pointer none | .nilIface | .nilFunc=>(runtimePanic .nilDeref:Sem Next)
   | .func (.method name) first captured=>
     match (first[0]? :Option Value) with
     | some .nilIface=>runtimePanic .nilDeref
     | some (.iface t w)=>do
       if (<-nilAhead ((<-program).types.size+Made.depth) t w name) != some false then
        unsupported (.noEntry "op/nilCheck.the method's receiver behind this interface value is a nil pointer, or cannot be seen to be none, and the arguments act or may panic (ledger 612)")
       pure (.value (.func (.method name) first captured))
     | _=>pure (.value (.func (.method name) first captured))
   | x=>pure (.value x))=pure (.value X)/\v=yd:=by
   intro X dp;cases yd<;>simp only [vC] at fs<;>try (cases fs;done)
   all_goals simp only [aoC] at fs
   all_goals simp only [Rel] at dp
   . obtain ⟨p,_,rfl⟩:=dp;exact ⟨rfl,fs.symm⟩
   . rcases dp with ⟨_,_,rfl,_⟩ | ⟨_,_,_,_,_,rfl⟩<;>exact ⟨rfl,fs.symm⟩
   . obtain ⟨p,rfl,_⟩:=dp;exact ⟨rfl,fs.symm⟩
   . obtain ⟨_,p,rfl,_⟩:=dp;exact ⟨rfl,fs.symm⟩
  obtain ⟨ad,rfl⟩:=f_ _ au;exact h5 (m:=pure (a.eval x)) (by simp only [execOp];rw [pure_bind];exact ad) (eo.plain s rfl au) ez
 case binOp op t x y u=>
  obtain ⟨fs,rfl⟩:=bh.ka he;clear he;obtain ⟨Z,hv,c1⟩:=Wo (P:=P) (lh:=x) (lj:=y) fs (e8 k x) (e8 k y) w;exact h5 rfl (eo.plain s hv c1) ez
 case unOp op t x=>
  obtain ⟨fs,rfl⟩:=bh.ka he;clear he;obtain ⟨Z,hv,c1⟩:=amc (P:=P) fs (e8 k x) w;exact h5 (m:=Op.unary op (a.eval x)) rfl (eo.plain s hv c1) ez
 case convert t u x=>exact h5 (m:=convert t u (a.eval x)) rfl (ZB s he (e8 k x)) ez
 case makeInterface t x=>
  cases az:bf P t with
  | none=>rw [az] at he;simp [eM.none] at he
  | some aS=>
    rw [az] at he;simp only at he;cases ai:Nat.beq (gw aS.bw) 5 with
    | true=>rw [ai] at he;simp [eM.none] at he
    | false=>
      rw [ai] at he;simp only [aoP,bh.val.injEq] at he;obtain ⟨rfl,rfl⟩:=he;refine h5 (m:=Instr.makeInterface t (a.eval x)) rfl (eo.plain (Z:=.iface t (a.eval x)) s ?_ ?_) ez
      . have hu:=ha az w;simp only [Instr.makeInterface,Sem.run_bind,hu,Result.andThen_ok];cases cC:aS.bw<;>first
         | rfl
         | (rw [cC] at ai;simp [gw] at ai)
      . simp only [Rel];exact ⟨_,rfl,e8 k x⟩
 case makeFunc fn first gK=>
  cases fn<;>simp only at he<;>try (simp [eM.none] at he;done)
  rename_i f;cases aE:(first.isEmpty&&!Nat.beq f eA) with
  | false=>
    rw [aE] at he;simp only [aoP] at he;cases oc:(gK.isEmpty&&!Nat.beq f eA) with
    | false=>rw [oc] at he;simp [eM.none] at he
    | true=>
      rw [oc] at he;simp only [aoJ,bh.val.injEq] at he;obtain ⟨rfl,rfl⟩:=he;simp only [aoE,apH] at oc;have Iy:f≠eA:=fun e=>by rw [e] at oc;exact absurd oc.2 (by decide)
      have Iv:gK=#[]:=by simpa using oc.1
      subst Iv;refine h5 (m:=Instr.makeFunc (.func f) (first.map a.eval) #[]) (by simp [execOp]) (eo.plain s rfl ?_) ez;simp only [Rel];exact ⟨Iy,_,rfl,by rw [JG];simpa using sc k first.toList⟩
  | true=>
    rw [aE] at he;simp only [aoJ,bh.val.injEq] at he;obtain ⟨rfl,rfl⟩:=he;simp only [aoE,apH] at aE;have Iy:f≠eA:=fun e=>by rw [e] at aE;exact absurd aE.2 (by decide)
    have Iv:first=#[]:=by simpa using aE.1
    subst Iv;refine h5 (m:=Instr.makeFunc (.func f) #[] (gK.map a.eval)) (by simp [execOp]) (eo.plain s rfl ?_) ez;simp only [Rel];exact .inl ⟨Iy,_,rfl,by rw [JG];simpa using sc k gK.toList⟩
 case makeSlice t l c=>exact h5 (m:=Instr.makeSlice t (a.eval l) (a.eval c)) rfl (agZ s (e8 k l) (e8 k c) he) ez
 case slice t x cX aJ fE=>
  obtain ⟨fs,rfl⟩:=bh.ka he;clear he;obtain ⟨Z,hv,c1⟩:=ak8 (P:=P) fs (e8 k x) (Fk k cX) (Fk k aJ) (Fk k fE) w;exact h5 (m:=Instr.sliceAt t (a.eval x) (cX.map a.eval) (aJ.map a.eval) (fE.map a.eval)) rfl (eo.plain s hv c1) ez
 case fieldAddr t x i=>
  obtain ⟨fs,rfl⟩:=bh.ka he;clear he;obtain ⟨Z,hv,c1⟩:=aa2 (P:=P) fs (e8 k x) w;exact h5 (m:=Instr.fieldAt t (a.eval x) i) rfl (eo.plain s hv c1) ez
 case field t x i=>
  obtain ⟨fs,rfl⟩:=bh.ka he;clear he;obtain ⟨Z,hv,c1⟩:=aa3 (P:=P) fs (e8 k x) w;exact h5 (m:=Instr.field t (a.eval x) i) rfl (eo.plain s hv c1) ez
 case indexAddr t x i=>
  obtain ⟨fs,rfl⟩:=bh.ka he;clear he;obtain ⟨Z,hv,c1⟩:=aeg (P:=P) fs (e8 k x) (e8 k i) w;exact h5 (m:=Instr.indexAt t (a.eval x) (a.eval i)) rfl (eo.plain s hv c1) ez
 case index t x i=>
  obtain ⟨fs,rfl⟩:=bh.ka he;clear he;obtain ⟨Z,hv,c1⟩:=aei (P:=P) fs (e8 k x) (e8 k i) w;exact h5 (m:=Instr.index t (a.eval x) (a.eval i)) rfl (eo.plain s hv c1) ez
 case range t x=>exact h5 (m:=Instr.range t (a.eval x)) rfl (aka s (e8 k x) he) ez
 case next it zu=>
  cases zu with
  | true=>exact h5 (m:=Instr.next (a.eval it) true type) rfl (ahu s (e8 k it) he) ez
  | false=>exact h5 (m:=Instr.next (a.eval it) false type) rfl (ahr s (e8 k it) he) ez
 case entry it=>exact h5 (m:=Instr.entry (a.eval it)) rfl (aaD s (e8 k it) he) ez
 case lookup t x y ok=>
  obtain ⟨fs,rfl⟩:=bh.ka he;clear he;obtain ⟨Z,hv,c1⟩:=agT (P:=P) s (e8 k x) (e8 k y) fs;exact h5 (m:=Instr.lookup t (a.eval x) (a.eval y) ok) rfl (eo.plain s hv c1) ez
 case mapEntry t m y=>exact h5 (m:=Instr.mapEntry t (a.eval m) (a.eval y)) rfl (ag1 s (e8 k m) (e8 k y) he) ez
 case entryStore t m st x=>
  cases eJ:Bn h ((de m).run r) ((de st).run r) ((de x).run r) with
  | none=>rw [eJ] at he;cases he
  | some ad=>
    rw [eJ] at he;simp only [jc,bh.val.injEq] at he;obtain ⟨rfl,rfl⟩:=he;obtain ⟨w',eQ,l4⟩:=aaC (P:=P) (t:=t) s (e8 k m) (e8 k st) (e8 k x) eJ;refine ⟨fun _ _=>trivial,?_⟩;rw [rP (by intro c h;cases h)];have:execOp a.eval ⟨dst,.entryStore t m st x,type,pos,after,guard⟩=(do Instr.entryStore t (a.eval m) (a.eval st) (a.eval x);pure .skip):=rfl;rw [this,Sem.run_bind,eQ];exact ez E undef w' (Env.le.refl E) (by simp [Rel]) l4
 case mapUpdate t m y x=>
  cases eJ:(vU P t).run h ((de m).run r) ((de y).run r) ((de x).run r) with
  | none=>rw [eJ] at he;cases he
  | some ad=>
    rw [eJ] at he;simp only [jc,bh.val.injEq] at he;obtain ⟨rfl,rfl⟩:=he;obtain ⟨w',eQ,l4⟩:=TE (P:=P) s (e8 k m) (e8 k y) (e8 k x) eJ;refine ⟨fun _ _=>trivial,?_⟩;rw [rP (by intro c h;cases h)];have:execOp a.eval ⟨dst,.mapUpdate t m y x,type,pos,after,guard⟩=(do Instr.mapUpdate t (a.eval m) (a.eval y) (a.eval x);pure .skip):=rfl;rw [this,Sem.run_bind,eQ];exact ez E undef w' (Env.le.refl E) (by simp [Rel]) l4
 case insert t m y x=>
  cases eJ:(vU P t).run h ((de m).run r) ((de y).run r) ((de x).run r) with
  | none=>rw [eJ] at he;cases he
  | some ad=>
    rw [eJ] at he;simp only [jc,bh.val.injEq] at he;obtain ⟨rfl,rfl⟩:=he;obtain ⟨w',eQ,l4⟩:=TE (P:=P) s (e8 k m) (e8 k y) (e8 k x) eJ;refine ⟨fun _ _=>trivial,?_⟩;rw [rP (by intro c h;cases h)];have:execOp a.eval ⟨dst,.insert t m y x,type,pos,after,guard⟩=(do Instr.mapUpdate t (a.eval m) (a.eval y) (a.eval x);pure .skip):=rfl;rw [this,Sem.run_bind,eQ];exact ez E undef w' (Env.le.refl E) (by simp [Rel]) l4
 case makeMap t x=>exact h5 (m:=Instr.makeMap t (x.map a.eval)) rfl (agY s (Fk k x) he) ez
 case panic x=>
  exfalso;unfold zY at he
  split at he<;>cases he
 case typeAssert x vY t ok=>
  cases az:bf P t with
  | none=>rw [az] at he;simp [eM.none] at he
  | some aS=>
    rw [az] at he;simp only at he;cases ai:Nat.beq (gw aS.bw) 5 with
    | true=>rw [ai] at he;simp [eM.none] at he
    | false=>
      rw [ai] at he;simp only [aoP] at he;obtain ⟨fs,rfl⟩:=bh.ka he;clear he;obtain ⟨Z,hv,c1⟩:=V5 az ai (vY:=vY) (e8 k x) fs w;exact h5 (m:=Instr.typeAssert (a.eval x) vY t ok) rfl (eo.plain s hv c1) ez
 case extract x i=>
  have au:=e8 k x;generalize (de x).run r=yd at he au;cases yd<;>simp only at he<;>try (cases he;done)
  obtain ⟨fs,rfl⟩:=bh.ka he;clear he;simp only [Rel] at au;obtain ⟨arr,dp,aG⟩:=au;obtain ⟨y,bl,c1⟩:=aG.get i v fs;refine h5 (m:=Instr.extract (a.eval x) i) rfl (eo.plain (Z:=y) s ?_ c1) ez;rw [dp];have:arr[i]? =some y:=by simpa using bl
  simp only [Instr.extract,this,Sem.run_pure]
 case call c=>
  obtain ⟨callee,args,types⟩:=c;cases callee with
  | invoke _ _=>simp [r6,eM.none] at he
  | builtin b=>
    simp only [r6] at he;obtain ⟨cs,jA⟩:∃cs,execOp a.eval ⟨dst,.call ⟨.builtin b,args,types⟩,type,pos,after,guard⟩=Go.builtin b types type cs (args.map a.eval):=by simp only [execOp,resolve,pure_bind,invoke];exact ⟨_,rfl⟩
    obtain ⟨m,hm,ay⟩:=WG (P:=P) (ty:=type) (cs:=cs) s (sc k args.toList) he;refine h5 (m:=m) ?_ ay ez;rw [jA,<-hm,JG]
  | value f=>
    simp only [r6] at he;have aE:=e8 k f;generalize adU:(de f).run r=Da at he aE;cases Da<;>simp only [V.xU] at he<;>try (cases he;done)
    rotate_left
    . rename_i g cs;simp only [Rel] at aE;refine ⟨fun _ _=>trivial,?_⟩;rw [rP (by intro c h;cases h)];obtain ⟨ay,first,dp,aG⟩:=aE;have tr:=bH.append aG (sc k args.toList);have pI:=fJ.fn _ _ _ _ _ _ ay he E w _ tr s;have hex:execOp a.eval ⟨dst,.call ⟨.value f,args,types⟩,type,pos,after,guard⟩=callFunc g (first++args.map a.eval):=by
       simp only [execOp,resolve,dp,Deferred.ofValue,pure_bind,invoke];simp
      have e:first++args.map a.eval=(first.toList++args.toList.map a.eval).toArray:=by apply apW;simp
      rw [hex,e];rcases pI with ⟨⟨fn,mV,ai⟩,ax⟩ | ⟨aw,x,w',U,an,av,aB⟩
      case inr=>
       rw [U];exact ez aw x w' an av aB
      rw [vN cQ mV ai];refine ⟨fun h=>by simp at h,r7.2 (ax.mono fun e w' aH=>?_)⟩;obtain ⟨aw,x,rfl,an,av,aB⟩:=aH;exact ez aw x w' an av aB
    rename_i g cs;simp only [Rel] at aE;refine ⟨fun _ _=>trivial,?_⟩;rw [rP (by intro c h;cases h)];rcases aE with ⟨ay,gK,dp,aG⟩ | ⟨ay,b,p,jA,aF,dp⟩
    . have tr:=(sc k args.toList).append aG;have pI:=fJ.fn _ _ _ _ _ _ ay he E w _ tr s;have hex:execOp a.eval ⟨dst,.call ⟨.value f,args,types⟩,type,pos,after,guard⟩=callFunc g (args.map a.eval++gK):=by
       simp only [execOp,resolve,dp,Deferred.ofValue,pure_bind,invoke];simp
      have e:args.map a.eval++gK=(args.toList.map a.eval++gK.toList).toArray:=by apply apW;simp
      rw [hex,e];rcases pI with ⟨⟨fn,mV,ai⟩,ax⟩ | ⟨aw,x,w',U,an,av,aB⟩
      case inr=>
       rw [U];exact ez aw x w' an av aB
      rw [vN cQ mV ai];refine ⟨fun h=>by simp at h,r7.2 (ax.mono fun e w' aH=>?_)⟩;obtain ⟨aw,x,rfl,an,av,aB⟩:=aH;exact ez aw x w' an av aB
    . subst ay jA;obtain ⟨HJ,tmps,assign,body,an,av⟩:=fJ.amM _ _ _ _ _ _ he E w _ p (sc k args.toList) s aF;have hex:execOp a.eval ⟨dst,.call ⟨.value f,args,types⟩,type,pos,after,guard⟩=Instr.yield p.bp (args.map a.eval):=by
       simp only [execOp,resolve,dp,Deferred.ofValue,pure_bind,invoke];simp
      have e:args.map a.eval=(args.toList.map a.eval).toArray:=by apply apW;simp
      rw [hex,e,an];refine ⟨fun h=>by simp at h,RoundIn.mono av fun e w' aH=>?_⟩;obtain ⟨aw,x,rfl,cJ,bc,bV⟩:=aH;exact ez aw x w' cJ bc bV
end
section
variable {P:Program}
theorem PI {E:Env} {aL:Nat} {r:c7} {a:Act} (k:RegRel0 E aL r a) {all:Array Oper} {j:Nat} {g:Oper} {d:Nat} (cW:all[j]? =some g) (bk:g.dst=some d) (acw:d<aL) (w5:d<=top):
 (∀b,T.get .bad (ao d) r=.bool b->yielded all a.tmps j=some b)/\(∀aj,T.get .bad (ao d) r=.tuple aj->yielded all a.tmps j=none):=by
 have U:=k.cA d w5;have a7:d<a.tmps.size:=by rw [k.size];exact acw
 have he:a.tmps[d]? =some (a.tmps.getD d undef):=by simp [ao4,a7]
 refine ⟨fun b ai=>?_,fun aj ai=>?_⟩
 . rw [ai] at U;simp only [Rel] at U;simp only [yielded,cW,Option.bind,bk,he,U]
 . rw [ai] at U;simp only [Rel] at U;obtain ⟨arr,U,_⟩:=U;simp only [yielded,cW,Option.bind,bk,he,U]
theorem ZD {rd:Option Nat} {aA:Fr} {E:Env} {h ae:ah} {w:World} {call:gB} (cQ:hh P) (fJ:iq P call) {o:Oper} {aL:Nat} {r:c7} {a:Act} {v:V} (hm:nK o.op=true)
 (he:(hN P o).run call r h=.fY v ae) (k:RegRel0 E aL r a) (s:bD aA E h w) {K:Act->World->Prop} {Q:Exit->Act->World->Prop}
 (b':∀aw x w',E.le aw->Rel aw v x->bD aA aw ae w'->Q (.panic (nS x)) a w'):o.wpIn (aq rd) 0 P a w K Q:=by
 obtain ⟨dst,op,type,pos,after,guard⟩:=o;cases op<;>simp only [nK] at hm<;>try (cases hm;done)
 all_goals simp only [hN] at he
 case panic x=>
  have au:=e8 k x;generalize (de x).run r=yd at he au;unfold zY at he;cases yd<;>simp only at he<;>try (cases he;done)
  simp only [bh.fY.injEq] at he;obtain ⟨rfl,rfl⟩:=he;have B':=au;simp only [Rel] at au;obtain ⟨Y,dp,g_⟩:=au;refine ⟨fun _ _=>trivial,?_⟩;rw [rP (by intro c h;cases h)];have hex:(execOp a.eval ⟨dst,.panic x,type,pos,after,guard⟩).run P w=.halt (.panic (a.eval x)) w:=by simp only [execOp,dp,Instr.panic,Sem.run_bind];rfl
  rw [hex];exact b' E _ w (Env.le.refl E) B' s
 case call c=>
  obtain ⟨callee,args,types⟩:=c;cases callee<;>simp only at hm<;>try (cases hm;done)
  rename_i f;simp only [r6] at he;have aE:=e8 k f;generalize adU:(de f).run r=Da at he aE;cases Da<;>simp only [V.xU] at he<;>try (cases he;done)
  rotate_left
  . rename_i g cs;simp only [Rel] at aE;refine ⟨fun _ _=>trivial,?_⟩;rw [rP (by intro c h;cases h)];obtain ⟨ay,first,dp,aG⟩:=aE;have tr:=bH.append aG (sc k args.toList);obtain ⟨⟨fn,mV,ai⟩,ax⟩:=fJ.fY _ _ _ _ _ _ ay he E w _ tr s;have hex:execOp a.eval ⟨dst,.call ⟨.value f,args,types⟩,type,pos,after,guard⟩=callFunc g (first++args.map a.eval):=by
     simp only [execOp,resolve,dp,Deferred.ofValue,pure_bind,invoke];simp
    have e:first++args.map a.eval=(first.toList++args.toList.map a.eval).toArray:=by apply apW;simp
    rw [hex,e,vN cQ mV ai];refine ⟨fun h=>by simp at h,r7.2 (ax.mono fun e w' aH=>?_)⟩;obtain ⟨aw,x,rfl,an,av,aB⟩:=aH;exact b' aw x w' an av aB
  rename_i g cs;simp only [Rel] at aE;refine ⟨fun _ _=>trivial,?_⟩;rw [rP (by intro c h;cases h)];rcases aE with ⟨ay,gK,dp,aG⟩ | ⟨ay,b,p,jA,aF,dp⟩
  . have tr:=(sc k args.toList).append aG;obtain ⟨⟨fn,mV,ai⟩,ax⟩:=fJ.fY _ _ _ _ _ _ ay he E w _ tr s;have hex:execOp a.eval ⟨dst,.call ⟨.value f,args,types⟩,type,pos,after,guard⟩=callFunc g (args.map a.eval++gK):=by
     simp only [execOp,resolve,dp,Deferred.ofValue,pure_bind,invoke];simp
    have e:args.map a.eval++gK=(args.toList.map a.eval++gK.toList).toArray:=by apply apW;simp
    rw [hex,e,vN cQ mV ai];refine ⟨fun h=>by simp at h,r7.2 (ax.mono fun e w' aH=>?_)⟩;obtain ⟨aw,x,rfl,an,av,aB⟩:=aH;exact b' aw x w' an av aB
  . subst ay;exact absurd he (fJ.amN _ _ _ _)
theorem pv.list {E:Env} {v:V} {ds:List Deferred} (k:pv E v ds):oF E v.list ds:=by
 cases v<;>first
  | exact k
end
theorem A1 (m i:Nat):hD m i=m.testBit i:=by
 rw [Nat.testBit_eq_decide_div_mod_eq];unfold hD;have e:Nat.mod (Nat.shiftRight m i) 2=m / 2 ^ i % 2:=by show (m >>> i) % 2=_;rw [Nat.shiftRight_eq_div_pow]
 rw [e,aps,ao8,aoO]
theorem JH {fW:List Nat} {i:Nat}:∀{es:List Edge},hD (vA fW es) i=true->∃e ∈ es,wu e=true/\(e.on=i\/hD ((fW[e.on]?).getD 0) i=true)
 | [],h=>by simp [vA,A1] at h
 | e::es,h=>by
   simp only [vA] at h;cases ai:wu e with
   | false=>
     rw [ai] at h;obtain ⟨fi,ad,ag⟩:=JH (es:=es) h;exact ⟨fi,by simp [ad],ag⟩
   | true=>
     rw [ai] at h;simp only [aoJ,A1] at h;have ae:((1 <<< e.on||| (fW[e.on]?).getD 0)||| vA fW es).testBit i=true:=h;rw [Nat.testBit_or,Nat.testBit_or,apF,apF] at ae;rcases ae with (ad | ad) | ad
     . refine ⟨e,by simp,ai,.inl ?_⟩;rw [Nat.testBit_shiftLeft] at ad;simp only [aoE,aoO] at ad;have:=ad.2;rw [Nat.testBit_one_eq_true_iff_self_eq_zero] at this;omega
     . exact ⟨e,by simp,ai,.inr (by rw [A1];exact ad)⟩
     . rw [<-A1] at ad;obtain ⟨fi,an,av⟩:=JH (es:=es) ad;exact ⟨fi,by simp [an],av⟩
def rX (ops:Array Oper) (L:Nat->Prop):Prop:=∀k o e,L k->ops[k]? =some o->e ∈ o.after.toList->wu e=true->L e.on
theorem Cw {ops:Array Oper} {L:Nat->Prop} (BD:rX ops L):∀(os:List Oper) (fW:List Nat),(∀j,os[j]? =ops[fW.length+j]?)->
 (∀k m i,fW[k]? =some m->hD m i=true->L k->L i)->∀k m i,(gk fW os)[k]? =some m->hD m i=true->L k->L i
 | [],fW,_,h,k,m,i,aD,ai,gL=>h k m i aD ai gL
 | o::os,fW,nG,h,k,m,i,aD,ai,gL=>by
   simp only [gk] at aD;refine Cw BD os (fW++[vA fW o.after.toList]) (fun j=>?_) (fun k m i aD ai gL=>?_) k m i aD ai gL
   . have:=nG (j+1);simp only [apq] at this;rw [this];congr 1;simp;omega
   . by_cases a7:k<fW.length
     . rw [apb a7] at aD;exact h k m i aD ai gL
     . rw [apf (by omega)] at aD;have BN:k-fW.length=0:=by
        cases bN:k-fW.length with
        | zero=>rfl
        | succ n=>rw [bN] at aD;simp at aD
       rw [BN] at aD;simp only [aoR,aoC] at aD;subst aD;have acW:k=fW.length:=by omega
       have bG:ops[k]? =some o:=by have:=nG 0;simp only [aoR,apO] at this;rw [acW];exact this.symm
       obtain ⟨e,he,Ie,lz⟩:=JH ai;have PN:=BD k o e gL bG he Ie;rcases lz with rfl | lz
       . exact PN
       . cases hm:fW[e.on]? with
         | none=>rw [hm] at lz;simp [A1] at lz
         | some dx=>rw [hm] at lz;exact h e.on dx i hm lz PN
theorem uL {f:Nat->Nat->Oper->Bool}:∀{k:Nat} {ms:List Nat} {os:List Oper},q1 f k ms os=true->∀j o,os[j]? =some o->∃m,ms[j]? =some m/\f (k+j) m o=true
 | _,_,[],_,j,o,h=>by simp at h
 | _,[],_::_,h,_,_,_=>by cases h
 | k,m::ms,dV::os,h,j,o,bG=>by
   simp only [q1,aoE] at h;cases j with
   | zero=>simp only [aoR,aoC] at bG;subst bG;exact ⟨m,rfl,h.1⟩
   | succ j=>
     obtain ⟨dx,ad,ag⟩:=uL h.2 j o (by simpa using bG);exact ⟨dx,by simpa using ad,by rw [show k + (j+1)=k+1+j from by omega];exact ag⟩
theorem Lu {f:Nat->Nat->Oper->Bool}:∀{k:Nat} {ms:List Nat} {os:List Oper},ms.length=os.length->(∀j m o,ms[j]? =some m->os[j]? =some o->f (k+j) m o=true)->q1 f k ms os=true
 | _,[],[],_,_=>rfl
 | _,[],_::_,h,_=>by simp at h
 | _,_::_,[],h,_=>by simp at h
 | k,m::ms,o::os,h,aE=>by simp only [q1,aoE];refine ⟨aE 0 m o rfl rfl,Lu (by simpa using h) fun j dx dV ad ag=>?_⟩;have:=aE (j+1) dx dV (by simpa using ad) (by simpa using ag);rw [show k+1+j=k + (j+1) from by omega];exact this
theorem JI:∀(os:List Oper) (fW:List Nat),(gk fW os).length=fW.length+os.length
 | [],fW=>rfl
 | o::os,fW=>by simp [gk,JI os];omega
section
variable {P:Program}
theorem OA {o:Oper} {call:gB} {r:c7} {h ae:ah} {v:V} (aH:ib P o.op=false) (he:(hN P o).run call r h=.val v ae):ae=h:=by
 obtain ⟨dst,op,type,pos,after,guard⟩:=o;cases op<;>simp only [ib] at aH<;>try (cases aH;done)
 all_goals simp only [hN] at he
 case convert s d x=>
  unfold r9 at he;cases al:bf P s with
  | none=>rw [al] at he;cases he
  | some vO=>
    cases bk:bf P d with
    | none=>rw [bk] at aH;cases aH
    | some ql=>
      rw [al,bk] at he;rw [bk] at aH;simp only at he aH;cases hu:ql.bw with
      | int k=>
        rw [hu] at he;obtain ⟨b0,n,_,ad⟩:=t_ he;simp only [bh.val.injEq] at ad;exact ad.2.symm
      | slice e=>rw [hu] at aH;cases aH
      | string=>
        rw [hu] at he;simp only at he
        have other:∀x:V,(match x with
         | .str s=>bh.val (.str s) h
         | .int _ n=>.val (.str (Utf8.encode n).data.toList) h
         | _=>.fail)=.val v ae->ae=h:=by
         intro x he;cases x<;>simp only at he<;>first
          | (cases he;done)
          | (simp only [bh.val.injEq] at he;exact he.2.symm)
        cases Qy:vO.bw with
        | slice e=>
          rw [Qy] at he;simp only at he;cases df:bf P e with
          | none=>rw [df] at he;cases he
          | some bo=>
            rw [df] at he;simp only at he;have alk:∀b off len,vR b off len h=.val v ae->ae=h:=by
             intro b off len he;unfold vR at he;cases ay:h.get b<;>rw [ay] at he<;>simp only [c_.qU] at he<;>try (cases he;done)
             all_goals
              obtain ⟨_,ag⟩:=n2 he;cases adP:p4 (mU _ off len)<;>rw [adP] at ag<;>first
               | (cases ag;done)
               | (simp only [bh.val.injEq] at ag;exact ag.2.symm)
            cases fU:bo.bw with
            | int Cg=>
              rw [fU] at he;cases Cg<;>simp only at he<;>try (cases he;done)
              simp only [u2] at he;cases au:(de x).run r<;>rw [au] at he<;>simp only at he<;>first
               | (cases he;done)
               | exact alk _ _ _ he
               | (simp only [bh.val.injEq] at he;exact he.2.symm)
            | _=>rw [fU] at he;cases he
        | _=>rw [Qy] at he;exact other _ he
      | _=>rw [hu] at he;cases he
 case call c=>
  obtain ⟨callee,args,types⟩:=c;cases callee<;>simp only at aH<;>try (cases aH;done)
  rename_i b;simp only [r6] at he;cases b<;>simp only at aH<;>try (cases aH;done)
  . simp only [r3] at he;cases gu:types.toList with
    | nil=>rw [gu] at he;simp [hL.none] at he
    | cons t dE=>
      cases dE with
      | cons _ _=>rw [gu] at he;simp [hL.none] at he
      | nil=>
        rw [gu] at he;simp only at he;cases az:bf P t with
        | none=>rw [az] at he;simp [hL.none] at he
        | some aS=>
          rw [az] at he;rw [gu] at aH;simp only [Jq,az] at aH;simp only [aH,aoP] at he
          split at he
          . exact (bh.ka he).2
          . cases he
  . exact (bh.ka he).2
  . exact (bh.ka he).2
 case move=>simp only [bh.val.injEq] at he;exact he.2.symm
 case assign=>simp only [bh.val.injEq] at he;exact he.2.symm
 case pick c a b=>
  split at he
  . simp only [bh.val.injEq] at he;exact he.2.symm
  . cases he
 case makeFunc fn first gK=>
  cases fn<;>simp only at he<;>try (simp [eM.none] at he;done)
  rename_i f;cases aE:(first.isEmpty&&!Nat.beq f eA)<;>rw [aE] at he
  . simp only [aoP] at he;cases oc:(gK.isEmpty&&!Nat.beq f eA)<;>rw [oc] at he
    . simp [eM.none] at he
    . simp only [aoJ,bh.val.injEq] at he;exact he.2.symm
  . simp only [aoJ,bh.val.injEq] at he;exact he.2.symm
 case typeAssert x vY t ok=>
  cases az:bf P t with
  | none=>rw [az] at he;simp [eM.none] at he
  | some aS=>
    rw [az] at he;simp only at he;cases ai:Nat.beq (gw aS.bw) 5<;>rw [ai] at he
    . exact (bh.ka he).2
    . simp [eM.none] at he
 case makeInterface t x=>
  cases az:bf P t with
  | none=>rw [az] at he;simp [eM.none] at he
  | some aS=>
    rw [az] at he;simp only at he;cases ai:Nat.beq (gw aS.bw) 5<;>rw [ai] at he
    . simp only [aoP,bh.val.injEq] at he;exact he.2.symm
    . simp [eM.none] at he
 case extract x i=>
  split at he
  . exact (bh.ka he).2
  . cases he
 all_goals exact (bh.ka he).2
theorem bh.zS {h ae:ah} {x:Option V} {v:V} (he:bh.of h x=.val v ae) (H:ah):bh.of H x=.val v H:=by rw [(bh.ka he).1];rfl
theorem Oz {o:Oper} {call:gB} {r:c7} {h ae:ah} {v:V} (aH:ib P o.op=false) (aG:looks o.op=false) (he:(hN P o).run call r h=.val v ae) (H:ah):(hN P o).run call r H=.val v H:=by
 obtain ⟨dst,op,type,pos,after,guard⟩:=o;cases op<;>simp only [ib] at aH<;>try (cases aH;done)
 all_goals simp only [looks] at aG<;>try (cases aG;done)
 all_goals simp only [hN] at he ⊢
 case call c=>
  obtain ⟨callee,args,types⟩:=c;cases callee<;>simp only at aH<;>try (cases aH;done)
  rename_i b;simp only [r6] at he ⊢;cases b<;>simp only at aH<;>try (cases aH;done)
  . simp only [r3] at he ⊢;cases gu:types.toList with
    | nil=>rw [gu] at he;simp [hL.none] at he
    | cons t dE=>
      cases dE with
      | cons _ _=>rw [gu] at he;simp [hL.none] at he
      | nil=>
        rw [gu] at he;simp only at he ⊢;cases az:bf P t with
        | none=>rw [az] at he;simp [hL.none] at he
        | some aS=>
          rw [az] at he;rw [gu] at aH;simp only [Jq,az] at aH;simp only [aH,aoP] at he ⊢
          split at he
          . exact bh.zS he H
          . cases he
  . exact bh.zS he H
  . exact bh.zS he H
 case move=>simp only [bh.val.injEq] at he;rw [he.1]
 case assign=>simp only [bh.val.injEq] at he;rw [he.1]
 case pick c a b=>
  split at he
  . simp only [bh.val.injEq] at he;rw [he.1]
  . cases he
 case makeFunc fn first gK=>
  cases fn<;>simp only at he ⊢<;>try (simp [eM.none] at he;done)
  rename_i f;cases aE:(first.isEmpty&&!Nat.beq f eA)<;>rw [aE] at he
  . simp only [aoP] at he ⊢;cases oc:(gK.isEmpty&&!Nat.beq f eA)<;>rw [oc] at he
    . simp [eM.none] at he
    . simp only [aoJ,bh.val.injEq] at he ⊢;exact ⟨he.1,trivial⟩
  . simp only [aoJ,bh.val.injEq] at he ⊢;exact ⟨he.1,trivial⟩
 case typeAssert x vY t ok=>
  cases az:bf P t with
  | none=>rw [az] at he;simp [eM.none] at he
  | some aS=>
    rw [az] at he;simp only at he ⊢;cases ai:Nat.beq (gw aS.bw) 5<;>rw [ai] at he
    . exact bh.zS he H
    . simp [eM.none] at he
 case makeInterface t x=>
  cases az:bf P t with
  | none=>rw [az] at he;simp [eM.none] at he
  | some aS=>
    rw [az] at he;simp only at he ⊢;cases ai:Nat.beq (gw aS.bw) 5<;>rw [ai] at he
    . simp only [aoP,bh.val.injEq] at he ⊢;exact ⟨he.1,trivial⟩
    . simp [eM.none] at he
 case extract x i=>
  split at he
  . exact bh.zS he H
  . cases he
 all_goals exact bh.zS he H
end
section
variable {P:Program}
def Gy (P:Program) (E:Env) (m:Sem Value) (v:V) (h ae:ah):Prop:=
 ∃k,ae=h.new k/\True/\∀w,∃X qK,m.run P w=.ok X {w with heap:=w.heap.push qK}/\
  ∀aw,E.le aw->aw (ao h.next)=some ⟨w.heap.size,0,0⟩->Rel aw v X/\∀B,B<=w.heap.size->jh B aw {w with heap:=w.heap.push qK} (ao h.next) k
theorem E' {E:Env} {h ae:ah} {aj:List V} {l:List Value} (aG:bH E aj l) (he:hY h aj=some ae) (t:TypeId):
 ∃k,ae=h.new k/\True/\∀w,(newRow t l.toArray).run P w=.ok ⟨w.heap.size,0,none⟩ {w with heap:=w.heap.push (.cells l.toArray t)}/\
  ∀aw,E.le aw->aw (ao h.next)=some ⟨w.heap.size,0,0⟩->∀B,B<=w.heap.size->jh B aw {w with heap:=w.heap.push (.cells l.toArray t)} (ao h.next) k:=by
 unfold hY at he;obtain ⟨ax,he⟩:=fT he;rw [aoT] at ax;cases he;refine ⟨_,rfl,trivial,fun w=>⟨by simp [newRow],fun aw hle fe B cd=>?_⟩⟩;have:=HS (bH.mono hle _ _ aG) ax #[]
 rw [Array.append_empty] at this;exact ⟨ax,_,_,t,(0,0),fe,cd,by simp,.inr (aoz _),fun _=>rfl,fun h=>absurd rfl h,this⟩
theorem WE {E:Env} {h ae:ah} {t:TypeId} {n:Nat} {bK:List (Nat × V)} {ma:List (Nat × Value)} {v:V} (aF:s5 E bK ma) (he:(wy P t n).run bK h=.val v ae):
 Gy P E (Instr.buildSlice t n ma.toArray) v h ae:=by
 unfold wy at he;cases az:bf P t with
 | none=>rw [az] at he;cases he
 | some aS=>
   rw [az] at he;simp only at he;have hu:=ha az;cases cC:aS.bw with
   | slice e=>
     rw [cC] at he hu;simp only at he;cases df:bf P e with
     | none=>rw [df] at he;cases he
     | some bo=>
       rw [df] at he;simp only at he;cases bN:bo.zero with
       | none=>rw [bN] at he;cases he
       | some z=>
         rw [bN] at he;simp only at he;cases ax:(Nat.ble (n * bo.size) 1000000&&Nat.beq z.cells.length bo.size) with
         | false=>rw [ax] at he;cases he
         | true=>
           rw [ax] at he;simp only [aoJ] at he;simp only [aoE,aoT,ao8] at ax;cases aE:oX (fun i=>some (i * bo.size,bo.size)) (kP z.cells n) bK with
           | none=>rw [aE] at he;cases he
           | some cs=>
             rw [aE] at he;simp only at he;cases aI:hY h cs with
             | none=>rw [aI] at he;cases he
             | some ad=>
               rw [aI] at he;simp only [bh.val.injEq] at he;obtain ⟨rfl,rfl⟩:=he;obtain ⟨x,au,qu,qv⟩:=uK (P:=P) (E:=E) df bN ⟨#[],fun _ _=>0,0,default,#[]⟩;have tM:x.cells.size=bo.size:=by rw [qv,ax.2]
               have tH:=z7 qu n;rw [tM] at tH;obtain ⟨b,jI,pH⟩:=Bv (a:=(Array.range (n * bo.size)).map (x.cells[· % x.cells.size]!)) aF (by rw [tM];exact tH) aE;obtain ⟨k,g1,g2,g3⟩:=E' (P:=P) pH aI e;refine ⟨k,g1,g2,fun w=>⟨.slice (some ⟨w.heap.size,0,none⟩) n n,.cells b e,?_,fun aw hle fe=>⟨?_,?_⟩⟩⟩
               . have w_:¬16777216<n * bo.size:=by omega
                 have kn:(newRow e b).run P w=.ok ⟨w.heap.size,0,none⟩ {w with heap:=w.heap.push (.cells b e)}:=by simpa using (g3 w).1
                 by_cases aM:n * bo.size=0
                 . have Ib:Instr.fill (fun i=>some (i * bo.size,bo.size)) ((Array.range (n * bo.size)).map ((#[]:Array Value)[· % 0]!)) ma=some b:=by
                    have aO:(Array.range (n * bo.size)).map ((#[]:Array Value)[· % 0]!)=(Array.range (n * bo.size)).map (x.cells[· % x.cells.size]!):=by rw [aM];simp
                    rw [aO];exact jI
                   have Ic:Instr.fill (fun i=>some (i * bo.size,bo.size)) ((Array.range (n * bo.size)).map (fun x=>(#[]:Array Value)[x % (#[]:Array Value).size]!)) ma=some b:=Ib;simp only [Instr.buildSlice,Sem.run_bind,hu,Result.andThen_ok,lM df,Sem.run_ite];rw [aoI w_];simp only [Sem.run_pure,Result.andThen_ok,aoN aM];rw [Ic];simp only [Sem.run_bind,kn,Result.andThen_ok,Sem.run_pure]
                 . simp only [Instr.buildSlice,Sem.run_bind,hu,Result.andThen_ok,lM df,Sem.run_ite];rw [aoI w_];simp only [Sem.run_pure,Result.andThen_ok,aoI aM,au];rw [jI];simp only [Sem.run_bind,kn,Result.andThen_ok,Sem.run_pure]
               . simp only [Rel];exact ⟨_,fe,aoz _,by simp⟩
               . simpa using (g3 w).2 aw hle fe
   | _=>rw [cC] at he;cases he
theorem ag0 {E:Env} {h ae:ah} {t:TypeId} {x y v:V} {X Y:Value} (au:Rel E x X) (bl:Rel E y Y) (he:(xC P t).run x y h=.val v ae):
 Gy P E (Instr.makeSlice t X Y) v h ae:=by
 unfold xC at he;cases az:bf P t with
 | none=>rw [az] at he;cases he
 | some aS=>
   rw [az] at he;simp only at he;have hu:=ha az;cases cC:aS.bw with
   | slice e=>
     rw [cC] at he hu;simp only at he;cases df:bf P e with
     | none=>rw [df] at he;cases he
     | some bo=>
       rw [df] at he;simp only at he;cases bN:bo.zero with
       | none=>rw [bN] at he;cases he
       | some z=>
         rw [bN] at he;simp only at he;cases w0:Nat.ble bo.bytes 4096 with
         | false=>rw [w0] at he;cases he
         | true=>
           rw [w0] at he;simp only [aoJ,zI] at he;obtain ⟨c8,l,rfl,y8⟩:=t_ he;obtain ⟨dJ,c,rfl,fs⟩:=t_ y8;have:=au.kq;subst this;have:=bl.kq;subst this;obtain ⟨ax,rn⟩:=n2 fs;simp only [aoE,qB,aoO,ao8] at ax;obtain ⟨⟨aM,ad,ag⟩,ar⟩:=ax;rw [aoT] at w0;cases aI:hY h (kP z.cells c.toNat) with
           | none=>rw [aI] at rn;cases rn
           | some bP=>
             rw [aI] at rn;simp only [bh.val.injEq] at rn;obtain ⟨rfl,rfl⟩:=rn;obtain ⟨nv,xm,qu,qv⟩:=uK (P:=P) (E:=E) df bN ⟨#[],fun _ _=>0,0,default,#[]⟩;have tM:nv.cells.size=bo.size:=by rw [qv,ar]
             have tH:=z7 qu c.toNat;obtain ⟨k,g1,g2,g3⟩:=E' (P:=P) tH aI e;have EM:IntKind.i64.wrap l=l:=by simp only [IntKind.wrap,IntKind.bits,IntKind.signed];simp;omega
             have Je:IntKind.i64.wrap c=c:=by simp only [IntKind.wrap,IntKind.bits,IntKind.signed];simp;omega
             have hmul:(bo.bytes:Int) * c<=4096 * 1000000:=by
              have ai:(bo.bytes:Int)<=4096:=by omega
              have:=Int.mul_le_mul_of_nonneg_right (c:=c) ai (by omega);omega
             refine ⟨k,g1,g2,fun w=>?_⟩;obtain ⟨i,aJ,sn⟩:=FO (P:=P) df w;refine ⟨.slice (some ⟨w.heap.size,0,none⟩) l.toNat c.toNat,_,?_,fun aw hle fe=>⟨?_,(g3 w).2 aw hle fe⟩⟩
             . have kn:=(g3 w).1;simp only [apx] at kn;have cf:¬c<0:=by omega
               have c6:¬((bo.bytes:Int) * c>281474976710656):=by omega
               have c3:¬l<0:=by omega
               have hj:¬l>c:=by omega
               have same:(if c.toNat * bo.size=0 then (Array.range (c.toNat * bo.size)).map (fun x=>(#[]:Array Value)[x % (#[]:Array Value).size]!) else (Array.range (c.toNat * bo.size)).map (fun x=>nv.cells[x % nv.cells.size]!))=
                (Array.range (c.toNat * nv.cells.size)).map (nv.cells[· % nv.cells.size]!):=by
                rw [tM];by_cases aH:c.toNat * bo.size=0
                . rw [aH];simp
                . rw [aoI aH]
               simp only [Instr.makeSlice,Sem.run_bind,hu,Result.andThen_ok,asInt,asIntOf,Sem.run_pure,aJ,EM,Je,sn];rw [aoI (by simp only [apF,aoO,not_or];exact ⟨⟨⟨cf,c6⟩,c3⟩,hj⟩)];simp only [Result.andThen_ok,Sem.run_bind,run_askRoom,lM df];by_cases aH:c.toNat * bo.size=0
               . rw [aoN aH] at same;rw [aoN aH];simp only [Sem.run_pure,Result.andThen_ok,Sem.run_bind,same,kn,apx]
               . rw [aoI aH] at same;rw [aoI aH];simp only [Sem.run_pure,Result.andThen_ok,Sem.run_bind,xm,same,kn,apx]
             . simp only [Rel];exact ⟨_,fe,by omega,by simp⟩
   | _=>rw [cC] at he;cases he
theorem ZC {E:Env} {h ae:ah} {call:gB} {o:Oper} {aL:Nat} {r:c7} {a:Act} {v:V} (b5:jo o=true) (he:(hN P o).run call r h=.val v ae) (k:RegRel0 E aL r a):
 ∃m:Sem Value,execOp a.eval o=(do pure (.value (<-m)))/\Gy P E m v h ae:=by
 obtain ⟨dst,op,type,pos,after,guard⟩:=o;cases op<;>simp only [jo] at b5<;>try (cases b5;done)
 all_goals simp only [hN] at he
 case alloc t=>
  refine ⟨Instr.alloc t true (.tuple #[]),rfl,?_⟩;cases az:bf P t with
  | none=>rw [az] at he;simp [eM.none] at he
  | some aS=>
    rw [az] at he;simp only at he;cases bN:aS.zero with
    | none=>rw [bN] at he;simp [eM.none] at he
    | some z=>
      rw [bN] at he;simp only at he;cases aI:hY h z.cells with
      | none=>rw [aI] at he;cases he
      | some ad=>
        rw [aI] at he;simp only [jc,bh.val.injEq] at he;obtain ⟨rfl,rfl⟩:=he;obtain ⟨x,au,qu,_⟩:=uK (P:=P) (E:=E) az bN ⟨#[],fun _ _=>0,0,default,#[]⟩;obtain ⟨dL,g1,g2,g3⟩:=E' (P:=P) qu aI t;refine ⟨dL,g1,g2,fun w=>⟨.pointer (some ⟨w.heap.size,0,none⟩),.cells x.cells t,?_,fun aw hle fe=>⟨?_,?_⟩⟩⟩
        . have:=(g3 w).1;simp only [apx] at this;simp only [Instr.alloc,Sem.run_bind,au,Result.andThen_ok,newVar,this,Sem.run_pure]
        . simp only [Rel];exact ⟨_,fe,by simp⟩
        . simpa using (g3 w).2 aw hle fe
 case box t x=>
  refine ⟨Instr.box t (a.eval x),rfl,?_⟩;obtain ⟨ay,he⟩:=n2 he;cases aI:hY h ((de x).run r).cells with
  | none=>rw [aI] at he;cases he
  | some ad=>
    rw [aI] at he;simp only [jc,bh.val.injEq] at he;obtain ⟨rfl,rfl⟩:=he;have aG:=(e8 k x).cells (fun e=>by rw [e] at ay;cases ay);obtain ⟨dL,g1,g2,g3⟩:=E' (P:=P) aG aI t;refine ⟨dL,g1,g2,fun w=>⟨.pointer (some ⟨w.heap.size,0,none⟩),.cells (a.eval x).cells t,?_,fun aw hle fe=>⟨?_,?_⟩⟩⟩
    . have:=(g3 w).1;simp only [apx] at this;simp only [Instr.box,Sem.run_bind,newVar,this,Result.andThen_ok,Sem.run_pure]
    . simp only [Rel];exact ⟨_,fe,by simp⟩
    . simpa using (g3 w).2 aw hle fe
 case buildSlice t n bK=>
  refine ⟨Instr.buildSlice t n (bK.map fun (i,x)=>(i,a.eval x)),rfl,?_⟩;rw [Kk];exact WE (Fp k bK.toList) he
 case makeSlice t l c=>exact ⟨Instr.makeSlice t (a.eval l) (a.eval c),rfl,ag0 (e8 k l) (e8 k c) he⟩
 case makeMap t x=>
  cases x with
  | some _=>cases b5
  | none=>
    refine ⟨Instr.makeMap t none,rfl,?_⟩;simp only [sJ,zH] at he;cases az:bf P t with
    | none=>rw [az] at he;cases he
    | some aS=>
      rw [az] at he;simp only at he;cases ai:Nat.beq (gw aS.bw) 3 with
      | false=>rw [ai] at he;cases he
      | true=>
        rw [ai] at he;simp only [aoJ,vy,zP] at he;simp only [bh.val.injEq] at he;obtain ⟨rfl,rfl⟩:=he;refine ⟨_,rfl,trivial,fun w=>⟨.map (some w.heap.size),.map #[] 0,?_,fun aw hle fe=>⟨?_,fun B cd=>?_⟩⟩⟩
        . simp only [Instr.makeMap,Sem.run_bind,run_newObj,Result.andThen_ok,Sem.run_pure]
        . simp only [Rel];exact ⟨_,fe,rfl⟩
        . exact ⟨_,#[],fe,cd,by simp,rfl⟩
def Fr.hold (F:Fr) (b:aN) (k:c_):Fr:=⟨F.w,fun ck=>if ck=b then some k else F.kv ck⟩
def Fr.free (F:Fr) (b:aN):Fr:=⟨F.w,fun ck=>if ck=b then none else F.kv ck⟩
theorem bD.hold {F:Fr} {E:Env} {h:ah} {w:World} (s:bD F E h w) (k:c_):bD (F.hold (ao h.next) k) E (h.new k) w:=by
 have e9:=s.fresh h.next (aoz _)
 refine ⟨fun b ai=>?_,fun b b0 aD=>?_,fun b ck p p' ad ag aO bs k4=>?_,fun i aJ=>s.fresh i (Nat.le_of_succ_le aJ),s.frame,s.laid,fun b p n cs st ad aO=>s.base b p n cs st (by
  have fX:ao h.next≠b:=fun e=>by rw [<-e,e9] at aO;cases aO
  rwa [ah.k2,aoI fX] at ad) aO⟩
 . simp only [Fr.hold] at ai;by_cases aH:b=ao h.next
   . rw [aoN aH] at ai;cases ai
   . rw [aoI aH] at ai;rw [ah.k2,aoI (fun e=>aH e.symm)];exact s.bp b ai
 . simp only [Fr.hold] at aD;by_cases aH:b=ao h.next
   . rw [aoN aH] at aD;cases aD;exact ⟨by rw [ah.k2,aoN aH.symm],by rw [aH];exact e9,h.next,Nat.lt_succ_self _,aH⟩
   . rw [aoI aH] at aD;obtain ⟨an,av,i,aB,bt⟩:=s.rL b b0 aD;exact ⟨by rw [ah.k2,aoI (fun e=>aH e.symm)];exact an,av,i,Nat.lt_succ_of_lt aB,bt⟩
 . have fX:ao h.next≠b:=fun e=>by rw [<-e,e9] at aO;cases aO
   have lE:ao h.next≠ck:=fun e=>by rw [<-e,e9] at bs;cases bs
   rw [ah.k2,aoI fX] at ad;rw [ah.k2,aoI lE] at ag;exact s.inj b ck p p' ad ag aO bs k4
theorem bD.link {F:Fr} {E:Env} {h:ah} {w:World} (s:bD F E h w) {b:aN} {k:c_} (aF:F.kv b=some k) {o:Obj}
 (rA:jh F.w.heap.size (E.put b ⟨w.heap.size,0,0⟩) {w with heap:=w.heap.push o} b k):
 E.le (E.put b ⟨w.heap.size,0,0⟩)/\bD (F.free b) (E.put b ⟨w.heap.size,0,0⟩) h {w with heap:=w.heap.push o}:=by
 obtain ⟨aD,e9,i0,IA,wY⟩:=s.rL b k aF;have hle:E.le (E.put b ⟨w.heap.size,0,0⟩):=Env.pS e9;have fe:E.put b ⟨w.heap.size,0,0⟩ b=some ⟨w.heap.size,0,0⟩:=by unfold Env.put;rw [aoN rfl]
 have hold:∀ck,ck≠b->E.put b ⟨w.heap.size,0,0⟩ ck=E ck:=by intro ck ai;unfold Env.put;rw [aoI ai]
 have wZ:∀ck q,E ck=some q->(h.get ck)≠.dead->q.bp<w.heap.size:=by
  intro ck q aH bk;have ai:=s.at aH;cases ay:h.get ck with
  | dead=>exact absurd ay bk
  | view n cs=>rw [ay] at ai;obtain ⟨_,gg,c,el,cK,e,_,bP,_⟩:=ai;rw [e] at aH;cases aH;exact (aoD.1 bP).1
  | cells n cs dw st=>rw [ay] at ai;obtain ⟨_,gg,c,el,cK,e,_,bP,_⟩:=ai;rw [e] at aH;cases aH;exact (aoD.1 bP).1
  | iter st pos=>rw [ay] at ai;obtain ⟨gg,e,_,_,bP⟩:=ai;rw [e] at aH;cases aH;exact (aoD.1 bP).1
  | mp es clock=>rw [ay] at ai;obtain ⟨gg,a,e,_,bP,_⟩:=ai;rw [e] at aH;cases aH;exact (aoD.1 bP).1
  | hH l=>rw [ay] at ai;obtain ⟨gg,a,e,_,bP,_⟩:=ai;rw [e] at aH;cases aH;exact (aoD.1 bP).1
  | h'=>rw [ay] at ai;obtain ⟨gg,e,_,bP⟩:=ai;rw [e] at aH;cases aH;exact (aoD.1 bP).1
  | l6 es=>rw [ay] at ai;obtain ⟨gg,a,c,l,e,_,bP,_⟩:=ai;rw [e] at aH;cases aH;exact (aoD.1 bP).1
  | k_ src since seen last=>rw [ay] at ai;obtain ⟨gg,m,a,e,_,_,bP,_⟩:=ai;rw [e] at aH;cases aH;exact (aoD.1 bP).1
 refine ⟨hle,fun ck iA=>?_,fun ck b0 jB=>?_,fun bT c2 cg cY ad ag aO bs k4=>?_,fun i aJ=>?_,⟨s.frame.os,s.frame.tape,s.frame.output,?_,fun j cW=>?_⟩,s.laid,fun bT cg n cs st ad aO=>by
  by_cases cf:bT=b
  . subst cf;rw [fe] at aO;cases aO;rfl
  . rw [hold bT cf] at aO;exact s.base _ _ _ _ _ ad aO⟩
 . by_cases aH:ck=b
   . subst aH;rw [aD];exact rA
   . simp only [Fr.free,aoI aH] at iA;have aM:=(s.bp ck iA).mono hle;by_cases bk:h.get ck=.dead
     . rw [bk];trivial
     . refine jh.hX aM fun q qs=>?_;rw [hold ck aH] at qs;have:=wZ ck q qs bk;simp only [ap0];rw [aoI (by omega)]
 . simp only [Fr.free] at jB;by_cases aH:ck=b
   . rw [aoN aH] at jB;cases jB
   . rw [aoI aH] at jB;obtain ⟨an,av,aB⟩:=s.rL ck b0 jB;exact ⟨an,by rw [hold ck aH];exact av,aB⟩
 . by_cases cf:bT=b<;>by_cases c6:c2=b
   . exact cf.trans c6.symm
   . subst cf;rw [fe] at aO;cases aO;rw [hold c2 c6] at bs;have:=wZ c2 cY bs (fun e=>by rw [e] at ag;cases ag);simp only at k4;omega
   . subst c6;rw [fe] at bs;cases bs;rw [hold bT cf] at aO;have:=wZ bT cg aO (fun e=>by rw [e] at ad;cases ad);simp only at k4;omega
   . rw [hold bT cf] at aO;rw [hold c2 c6] at bs;exact s.inj bT c2 cg cY ad ag aO bs k4
 . rw [hold _ (fun e=>?_)]
   . exact s.fresh i aJ
   . rw [wY] at e;have:=nR e;omega
 . have:=s.frame.size;simp only [Array.size_push,Fr.free];omega
 . have ad:=s.frame.size;simp only [Fr.free,ap0];rw [aoI (by simp only [Fr.free] at cW;omega)];exact s.frame.block j cW
end
section
variable {P:Program}
def fF (es:List ir) (fL:c7) (i:Nat):c7:=
 match es[i]? with
 | some e=>e.r
 | none=>fL
theorem Es (e:ir) (es:List ir) (aE:ah) (i:Nat):dM (e::es) aE (i+1)=dM es aE i:=by simp [dM]
theorem FJ (e:ir) (es:List ir) (fL:c7) (i:Nat):fF (e::es) fL (i+1)=fF es fL i:=by simp [fF]
theorem PD {aL:Nat} {d:Option Nat} (bk:hn aL d=true) {r:c7} {v:V} {t:Nat} (az:t<=top):T.get .bad (ao t) ((kx d).run r v)=if d=some t then v else T.get .bad (ao t) r:=by
 cases d with
 | none=>simp [kx]
 | some d=>
   simp only [hn,aoE,ape,aoT] at bk;simp only [kx,T.mT,aoC];by_cases h:d=t
   . subst h;simp
   . rw [aoI (fun e=>h (nR e)),aoI h]
theorem nD {aL:Nat} {all:Array Oper} {o:Oper} {call:gB} {r:c7} {h ae:ah} {v:V} (he:(et P aL all o).run call r h=.val v ae):hn aL o.dst=true/\kc (c9 all o)=true:=by
 unfold et at he;cases ax:(hn aL o.dst&&kc (c9 all o)) with
 | false=>rw [ax] at he;simp [eM.none] at he
 | true=>simpa using ax
theorem F4 {r:c7} {rs:List Nat} (al:kc rs=true) {t:Nat} (az:t<=top):T.get .bad (ao t) (gW r rs)=if t ∈ rs then T.get .bad (ao t) r else .bad:=by
 induction rs with
 | nil=>simp [gW]
 | cons u rs cc=>
   simp only [kc,aqg,aoE,aoT] at al;simp only [gW,T.mT,ao7];by_cases h:u=t
   . subst h;simp
   . rw [aoI (fun e=>h (nR e)),cc al.2];have ae:¬t=u:=fun e=>h e.symm;simp [ae]
theorem HA {aL:Nat} {all:Array Oper} {o:Oper} {call:gB} {r:c7} {h ae:ah} {v:V} (he:(et P aL all o).run call r h=.fY v ae):hn aL o.dst=true/\kc (c9 all o)=true:=by
 unfold et at he;cases ax:(hn aL o.dst&&kc (c9 all o)) with
 | false=>rw [ax] at he;simp [eM.none] at he
 | true=>simpa using ax
def GJ (aA:Fr) (E:Env) (o:Oper) (a:Act) (K:Act->World->Prop) (Q:Exit->Act->World->Prop):bh->Prop
 | .val v ae=>∀aw x w',E.le aw->Rel aw v x->bD aA aw ae w'->K (a.put o.dst x) w'
 | .fY v ae=>nK o.op=true/\∀aw x w',E.le aw->Rel aw v x->bD aA aw ae w'->Q (.panic (nS x)) a w'
 | .fail=>False
theorem OS {rd:Option Nat} {aA:Fr} {E:Env} {h:ah} {w:World} {call:gB} (cQ:hh P) (fJ:iq P call) (hU:iC P call) {all:Array Oper} {i:Nat} {o:Oper} (aJ:all[i]? =some o) {aL:Nat} {r:c7} {a:Act}
 (ia:hn aL o.dst=true/\kc (c9 all o)=true) (rB:a.tmps.size=aL) (mz:∀t ∈ c9 all o,Rel E (T.get .bad (ao t) r) (a.tmps.getD t undef)) (s:bD aA E h w)
 {K:Act->World->Prop} {Q:Exit->Act->World->Prop} (aF:GJ aA E o a K Q ((et P aL all o).run call r h)):wpOpIn (aq rd) 0 P all Q i K a w:=by
 obtain ⟨bk,al⟩:=ia
 have k:RegRel0 E aL (gW r (c9 all o)) a:=⟨rB,fun t az=>by
  rw [F4 al az];by_cases hm:t ∈ c9 all o
  . rw [aoN hm];exact mz t hm
  . rw [aoI hm];simp [Rel]⟩
 unfold et at aF;rw [show (hn aL o.dst&&kc (c9 all o))=true from by rw [bk,al];rfl] at aF;simp only [aoJ] at aF;have wanted:GJ aA E o a K Q ((hN P o).run call (gW r (c9 all o)) h)->Region.wanted o (yielded all a.tmps)=true->wpOpIn (aq rd) 0 P all Q i K a w:=by
  intro ad hw;simp only [wpOpIn,aJ,hw,aoM];cases U:(hN P o).run call (gW r (c9 all o)) h with
  | fail=>rw [U] at ad;exact ad.elim
  | val v ae=>rw [U] at ad;exact ZF cQ fJ hU U k s ad
  | fY v ae=>rw [U] at ad;exact ZD cQ fJ ad.1 U k s ad.2
 have TD:GJ aA E o a K Q (.val (.tuple []) h)->Region.wanted o (yielded all a.tmps)=false->wpOpIn (aq rd) 0 P all Q i K a w:=by intro ad hw;simp only [wpOpIn,aJ,hw,aoA,aoK];exact ⟨fun _ _=>trivial,ad E undef w (Env.le.refl E) (by simp only [Rel];exact ⟨#[],rfl,rfl⟩) s⟩
 cases ay:o.guard with
 | none=>
   rw [ay] at aF;exact wanted aF (by simp [Region.wanted,ay])
 | some tS=>
   obtain ⟨j,want⟩:=tS;rw [ay] at aF;simp only at aF;cases cW:all[j]? with
   | none=>rw [cW] at aF;exact aF.elim
   | some g=>
     rw [cW] at aF;simp only at aF;cases o4:g.dst with
     | none=>rw [o4] at aF;exact aF.elim
     | some d=>
       rw [o4] at aF;simp only at aF;cases ax:(Nat.blt d aL&&Nat.ble d top) with
       | false=>rw [ax] at aF;exact aF.elim
       | true=>
         rw [ax] at aF;simp only [aoJ,lu,rb] at aF;simp only [aoE,ape,aoT] at ax;obtain ⟨g1,g2⟩:=PI k cW o4 ax.1 ax.2;cases bZ:T.get .bad (ao d) (gW r (c9 all o))<;>rw [bZ] at aF<;>simp only at aF<;>try (exact aF.elim)
         . rename_i b;have bl:=g1 b bZ;cases ai:(bif want then b else !b) with
           | true=>
             rw [ai] at aF;simp only [aoJ] at aF;refine wanted aF ?_;simp only [Region.wanted,ay,bl];cases want<;>cases b<;>simp_all
           | false=>
             rw [ai] at aF;simp only [aoP] at aF;refine TD aF ?_;simp only [Region.wanted,ay,bl];cases want<;>cases b<;>simp_all
         . rename_i aj;have bl:=g2 aj bZ;refine TD aF ?_;simp only [Region.wanted,ay,bl];rfl
theorem r_ {rd:Option Nat} {aA:Fr} {E:Env} {h ae:ah} {w:World} {call:gB} (cQ:hh P) (fJ:iq P call) (hU:iC P call) {all:Array Oper} {i:Nat} {o:Oper} (aJ:all[i]? =some o) {aL:Nat} {r:c7} {a:Act} {v:V}
 (he:(et P aL all o).run call r h=.val v ae) (rB:a.tmps.size=aL) (mz:∀t ∈ c9 all o,Rel E (T.get .bad (ao t) r) (a.tmps.getD t undef)) (s:bD aA E h w)
 {K:Act->World->Prop} {Q:Exit->Act->World->Prop} (ez:∀aw x w',E.le aw->Rel aw v x->bD aA aw ae w'->K (a.put o.dst x) w'):wpOpIn (aq rd) 0 P all Q i K a w:=
 OS cQ fJ hU aJ (nD he) rB mz s (by rw [he];exact ez)
theorem OR {rd:Option Nat} {aA:Fr} {E:Env} {h ae:ah} {w:World} {call:gB} (cQ:hh P) (fJ:iq P call) (hU:iC P call) {all:Array Oper} {i:Nat} {o:Oper} (aJ:all[i]? =some o) {aL:Nat} {r:c7} {a:Act} {v:V}
 (he:(et P aL all o).run call r h=.fY v ae) (hm:nK o.op=true) (rB:a.tmps.size=aL) (mz:∀t ∈ c9 all o,Rel E (T.get .bad (ao t) r) (a.tmps.getD t undef)) (s:bD aA E h w)
 {K:Act->World->Prop} {Q:Exit->Act->World->Prop} (b':∀aw x w',E.le aw->Rel aw v x->bD aA aw ae w'->Q (.panic (nS x)) a w'):wpOpIn (aq rd) 0 P all Q i K a w:=
 OS cQ fJ hU aJ (HA he) rB mz s (by rw [he];exact ⟨hm,b'⟩)
theorem Bi {aL:Nat} {all:Array Oper} {o:Oper} {call:gB} {r:c7} {h ae:ah} {v:V} (aH:ib P o.op=false) (he:(et P aL all o).run call r h=.val v ae):
 ae=h/\(looks o.op=false->∀H,(et P aL all o).run call r H=.val v H):=by
 obtain ⟨bk,al⟩:=nD he;have ej:(hn aL o.dst&&kc (c9 all o))=true:=by rw [bk,al];rfl
 have key:et P aL all o=(match o.guard with
  | none=>⟨lu none (hN P o) (c9 all o)⟩
  | some (j,want)=>match all[j]? with
    | some g=>match g.dst with
      | some d=>bif Nat.blt d aL&&Nat.ble d top then ⟨lu (some (rb (ao d),want)) (hN P o) (c9 all o)⟩ else eM.none
      | none=>eM.none
    | none=>eM.none):=by
  unfold et;rw [ej];rfl
 rw [key] at he ⊢;cases ay:o.guard with
 | none=>
   rw [ay] at he;exact ⟨OA aH he,fun aG H=>Oz aH aG he H⟩
 | some tS=>
   obtain ⟨j,want⟩:=tS;rw [ay] at he;simp only at he ⊢;cases cW:all[j]? with
   | none=>rw [cW] at he;simp [eM.none] at he
   | some g=>
     rw [cW] at he;simp only at he ⊢;cases o4:g.dst with
     | none=>rw [o4] at he;simp [eM.none] at he
     | some d=>
       rw [o4] at he;simp only at he ⊢;cases ax:(Nat.blt d aL&&Nat.ble d top) with
       | false=>rw [ax] at he;simp [eM.none] at he
       | true=>
         rw [ax] at he;simp only [aoJ,lu] at he ⊢;cases bZ:(rb (ao d)).run (gW r (c9 all o))<;>rw [bZ] at he<;>simp only at he ⊢<;>try (cases he;done)
         . rename_i b;cases ai:(bif want then b else !b)<;>rw [ai] at he<;>simp only [aoJ,aoP] at he ⊢
           . simp only [bh.val.injEq] at he ⊢;exact ⟨he.2.symm,fun _ H=>⟨he.1,trivial⟩⟩
           . exact ⟨OA aH he,fun aG H=>Oz aH aG he H⟩
         . simp only [bh.val.injEq] at he ⊢;exact ⟨he.2.symm,fun _ H=>⟨he.1,trivial⟩⟩
theorem E1 {aK:List Nat}:∀{l:List Oper} {i j:Nat} {o:Oper},l[j]? =some o->gj P o=true->posOf aK (i+j) ∈ jC P aK i l
 | [],_,j,o,h,_=>by simp at h
 | dV::os,i,j,o,h,he=>by
   simp only [jC];cases j with
   | zero=>
     simp only [aoR,aoC] at h;subst h;rw [he];simp
   | succ j=>
     have:=E1 (aK:=aK) (i:=i+1) (by simpa using h) he;rw [show i + (j+1)=i+1+j from by omega];cases gj P dV with
     | true=>simp [this]
     | false=>exact this
theorem Re {aK:List Nat}:∀{l:List Oper} {i:Nat},i+l.length ∈ jC P aK i l
 | [],_=>by simp [jC]
 | o::os,i=>by
   have:=Re (aK:=aK) (l:=os) (i:=i+1);simp only [jC,aoH];rw [show i + (os.length+1)=i+1+os.length from by omega];cases gj P o with
   | true=>simp [this]
   | false=>exact this
theorem E2 {aK:List Nat}:∀{l:List Oper} {i s:Nat},s ∈ jC P aK i l->s=i+l.length\/∃j o,l[j]? =some o/\gj P o=true/\s=posOf aK (i+j)
 | [],i,s,h=>by simp only [jC,apz] at h;exact .inl (by simpa using h)
 | o::os,i,s,h=>by
   simp only [jC] at h;have rest:s ∈ jC P aK (i+1) os->s=i + (o::os).length\/∃j dV,(o::os)[j]? =some dV/\gj P dV=true/\s=posOf aK (i+j):=by
    intro h;rcases E2 h with h | ⟨j,dV,ad,ag,ar⟩
    . exact .inl (by simp only [aoH];omega)
    . exact .inr ⟨j+1,dV,by simpa using ad,ag,by rw [ar];congr 1;omega⟩
   cases ax:gj P o with
   | true=>
     rw [ax] at h;simp only [aoJ,ao7] at h;rcases h with h | h
     . exact .inr ⟨0,o,rfl,ax,h⟩
     . exact rest h
   | false=>rw [ax] at h;exact rest h
theorem Zv {c:Bool} {f:V->V->ah->bh} {x y v:V} {h ae:ah} (he:(bif c then (⟨f⟩:Au) else ⟨fun _ _ _=>.fail⟩).run x y h=.val v ae):c=true/\f x y h=.val v ae:=by
 cases c with
 | true=>exact ⟨rfl,he⟩
 | false=>cases he
theorem ZE {o:Oper} {call:gB} {r:c7} {h ae:ah} {v:V} (b5:jo o=true) (he:(hN P o).run call r h=.val v ae):∃k,ae=h.new k/\True:=by
 have cells:∀{aj:List V} {ad:ah},hY h aj=some ad->∃k,ad=h.new k/\True:=by intro aj ad he;unfold hY at he;obtain ⟨ax,he⟩:=fT he;cases he;exact ⟨_,rfl,trivial⟩
 obtain ⟨dst,op,type,pos,after,guard⟩:=o;cases op<;>simp only [jo] at b5<;>try (cases b5;done)
 all_goals simp only [hN] at he
 case alloc t=>
  cases az:bf P t with
  | none=>rw [az] at he;simp [eM.none] at he
  | some aS=>
    rw [az] at he;simp only at he;cases bN:aS.zero with
    | none=>rw [bN] at he;simp [eM.none] at he
    | some z=>
      rw [bN] at he;simp only at he;cases aI:hY h z.cells with
      | none=>rw [aI] at he;cases he
      | some ad=>
        rw [aI] at he;simp only [jc,bh.val.injEq] at he;obtain ⟨_,rfl⟩:=he;exact cells aI
 case box t x=>
  obtain ⟨ay,he⟩:=n2 he;cases aI:hY h ((de x).run r).cells with
  | none=>rw [aI] at he;cases he
  | some ad=>
    rw [aI] at he;simp only [jc,bh.val.injEq] at he;obtain ⟨_,rfl⟩:=he;exact cells aI
 case buildSlice t n bK=>
  unfold wy at he;cases az:bf P t with
  | none=>rw [az] at he;cases he
  | some aS=>
    rw [az] at he;simp only at he;cases cC:aS.bw<;>rw [cC] at he<;>simp only at he<;>try (cases he;done)
    rename_i e;cases df:bf P e with
    | none=>rw [df] at he;cases he
    | some bo=>
      rw [df] at he;simp only at he;cases bN:bo.zero with
      | none=>rw [bN] at he;cases he
      | some z=>
        rw [bN] at he;simp only at he;cases ax:(Nat.ble (n * bo.size) 1000000&&Nat.beq z.cells.length bo.size) with
        | false=>rw [ax] at he;cases he
        | true=>
          rw [ax] at he;simp only [aoJ] at he;cases aE:oX (fun i=>some (i * bo.size,bo.size)) (kP z.cells n) ((vG bK.toList).run r) with
          | none=>rw [aE] at he;cases he
          | some cs=>
            rw [aE] at he;simp only at he;cases aI:hY h cs with
            | none=>rw [aI] at he;cases he
            | some ad=>
              rw [aI] at he;simp only [bh.val.injEq] at he;obtain ⟨_,rfl⟩:=he;exact cells aI
 case makeSlice t l c=>
  unfold xC at he
  split at he
  rotate_left
  . cases he
  split at he
  rotate_left
  . cases he
  split at he
  rotate_left
  . cases he
  split at he
  rotate_left
  . cases he
  obtain ⟨_,he⟩:=Zv he;simp only [zI] at he;obtain ⟨_,_,_,he⟩:=t_ he;obtain ⟨_,_,_,he⟩:=t_ he;obtain ⟨_,he⟩:=n2 he
  split at he
  . rename_i aI;simp only [bh.val.injEq] at he;obtain ⟨_,rfl⟩:=he;exact cells aI
  . cases he
 case makeMap t x=>
  cases x with
  | some _=>cases b5
  | none=>
    simp only [sJ,zH] at he;cases az:bf P t with
    | none=>rw [az] at he;cases he
    | some aS=>
      rw [az] at he;simp only at he;cases ai:Nat.beq (gw aS.bw) 3 with
      | false=>rw [ai] at he;cases he
      | true=>
        rw [ai] at he;simp only [aoJ,vy,zP] at he;simp only [bh.val.injEq] at he;exact ⟨_,he.2.symm,trivial⟩
theorem ael {o:Oper} (b5:jo o=true):ib P o.op=true:=by obtain ⟨dst,op,type,pos,after,guard⟩:=o;cases op<;>simp only [jo] at b5<;>first | (cases b5;done) | rfl
theorem OU {aL:Nat} {all:Array Oper} {o:Oper} {call:gB} {r:c7} {h ae:ah} {v:V} (he:(et P aL all o).run call r h=.val v ae):
 ((hN P o).run call (gW r (c9 all o)) h=.val v ae/\∀E a,RegRel0 E aL (gW r (c9 all o)) a->Region.wanted o (yielded all a.tmps)=true)\/
 (ae=h/\∀H,(et P aL all o).run call r H=.val v H):=by
 obtain ⟨bk,al⟩:=nD he;have ej:(hn aL o.dst&&kc (c9 all o))=true:=by rw [bk,al];rfl
 have key:et P aL all o=(match o.guard with
  | none=>⟨lu none (hN P o) (c9 all o)⟩
  | some (j,want)=>match all[j]? with
    | some g=>match g.dst with
      | some d=>bif Nat.blt d aL&&Nat.ble d top then ⟨lu (some (rb (ao d),want)) (hN P o) (c9 all o)⟩ else eM.none
      | none=>eM.none
    | none=>eM.none):=by
  unfold et;rw [ej];rfl
 rw [key] at he ⊢;cases ay:o.guard with
 | none=>
   rw [ay] at he;exact .inl ⟨he,fun E a _=>by simp [Region.wanted,ay]⟩
 | some tS=>
   obtain ⟨j,want⟩:=tS;rw [ay] at he;simp only at he ⊢;cases cW:all[j]? with
   | none=>rw [cW] at he;simp [eM.none] at he
   | some g=>
     rw [cW] at he;simp only at he ⊢;cases o4:g.dst with
     | none=>rw [o4] at he;simp [eM.none] at he
     | some d=>
       rw [o4] at he;simp only at he ⊢;cases ax:(Nat.blt d aL&&Nat.ble d top) with
       | false=>rw [ax] at he;simp [eM.none] at he
       | true=>
         rw [ax] at he;simp only [aoJ,lu] at he ⊢;have rl:=ax;simp only [aoE,ape,aoT] at rl;cases bZ:(rb (ao d)).run (gW r (c9 all o))<;>rw [bZ] at he<;>simp only at he ⊢<;>try (cases he;done)
         . rename_i b;cases ai:(bif want then b else !b)<;>rw [ai] at he<;>simp only [aoJ,aoP] at he ⊢
           . simp only [bh.val.injEq] at he ⊢;exact .inr ⟨he.2.symm,fun H=>⟨he.1,trivial⟩⟩
           . refine .inl ⟨he,fun E a k=>?_⟩;obtain ⟨g1,_⟩:=PI k cW o4 rl.1 rl.2;have bl:=g1 b bZ;simp only [Region.wanted,ay,bl];cases want<;>cases b<;>simp_all
         . simp only [bh.val.injEq] at he ⊢;exact .inr ⟨he.2.symm,fun H=>⟨he.1,trivial⟩⟩
theorem OT {aL:Nat} {all:Array Oper} {o:Oper} {call:gB} {r:c7} {h ae:ah} {v:V} (b5:jo o=true) (he:(et P aL all o).run call r h=.val v ae):
 (∃k,ae=h.new k/\True)\/(ae=h/\∀H,(et P aL all o).run call r H=.val v H):=by
 rcases OU he with ⟨ad,_⟩ | ad
 . exact .inl (ZE b5 ad)
 . exact .inr ad
theorem aal {rd:Option Nat} {F:Fr} {E:Env} {h ae H:ah} {w:World} {call:gB} {all:Array Oper} {i:Nat} {o:Oper} (aJ:all[i]? =some o) (b5:jo o=true) {aL:Nat} {r:c7} {a:Act} {v:V}
 (he:(et P aL all o).run call r h=.val v ae) (rB:a.tmps.size=aL) (mz:∀t ∈ c9 all o,Rel E (T.get .bad (ao t) r) (a.tmps.getD t undef)) (s:bD F E H w)
 (IP:ae.next≠h.next) (aF:F.kv (ao h.next)=some (ae.get (ao h.next)))
 {K:Act->World->Prop} {Q:Exit->Act->World->Prop} (ez:∀aw x w',E.le aw->Rel aw v x->bD (F.free (ao h.next)) aw H w'->K (a.put o.dst x) w'):wpOpIn (aq rd) 0 P all Q i K a w:=by
 obtain ⟨bk,al⟩:=nD he
 have k:RegRel0 E aL (gW r (c9 all o)) a:=⟨rB,fun t az=>by
  rw [F4 al az];by_cases hm:t ∈ c9 all o
  . rw [aoN hm];exact mz t hm
  . rw [aoI hm];simp [Rel]⟩
 obtain ⟨gT,hw⟩:(hN P o).run call (gW r (c9 all o)) h=.val v ae/\Region.wanted o (yielded all a.tmps)=true:=by
  rcases OU he with ⟨ad,ag⟩ | ⟨ad,_⟩
  . exact ⟨ad,ag E a k⟩
  . exact absurd (by rw [ad]) IP
 obtain ⟨m,au,dL,an,av,aB⟩:=ZC b5 gT k;simp only [wpOpIn,aJ,hw,aoM];obtain ⟨X,qK,cg,cY⟩:=aB w;rw [an,ah.k2,aoN rfl] at aF;have fe:E.put (ao h.next) ⟨w.heap.size,0,0⟩ (ao h.next)=some ⟨w.heap.size,0,0⟩:=by unfold Env.put;rw [aoN rfl]
 have hle:E.le (E.put (ao h.next) ⟨w.heap.size,0,0⟩):=Env.pS (s.rL _ _ aF).2.1;obtain ⟨cJ,bc⟩:=cY _ hle fe;have dH:F.w.heap.size<=w.heap.size:=s.frame.size;obtain ⟨_,k7⟩:=s.link aF (o:=qK) (bc _ dH);refine ⟨fun _ _=>trivial,?_⟩;rw [rP (by intro c h;have:=b5;unfold jo at this;rw [h] at this;cases this),au,Sem.run_bind,cg];exact ez _ X _ hle cJ k7
end
theorem Ht {α:Type} (p q:α->Bool):∀(l:List α),(∀x ∈ l,q x=true->p x=true)->(∃x ∈ l,p x=true/\q x=false)->l.countP q<l.countP p
 | [],_,h=>by obtain ⟨x,au,_⟩:=h;simp at au
 | a::l,ad,ag=>by
   have hle:l.countP q<=l.countP p:=List.countP_mono_left fun x au=>ad x (by simp [au]);obtain ⟨x,au,aF,aH⟩:=ag;simp only [ao7] at au;rcases au with rfl | au
   . rw [List.countP_cons,List.countP_cons,aF,aH];simp;omega
   . have cc:=Ht p q l (fun y bl=>ad y (by simp [bl])) ⟨x,au,aF,aH⟩;have b5:=ad a (by simp);rw [List.countP_cons,List.countP_cons];cases adu:q a with
     | true=>rw [b5 adu];simp;omega
     | false=>simp;omega
theorem yH (e:Edge):Region.binds .any e=wu e:=by unfold Region.binds wu;cases e.ground<;>rfl
section
variable {P:Program}
theorem Kn {order:List Nat}:∀{bK:List Nat} {k j p:Nat},CQ order k bK=true->bK[j]? =some p->order[p]? =some (k+j)
 | [],_,j,p,_,h=>by simp at h
 | q::bK,k,j,p,aF,h=>by
   simp only [CQ,aoE] at aF;cases j with
   | zero=>
     simp only [aoR,aoC] at h;subst h;have ad:=aF.1;cases aH:order[q]? with
     | none=>rw [aH] at ad;cases ad
     | some i=>rw [aH] at ad;rw [ao8] at ad;rw [ad];rfl
   | succ j=>
     have:=Kn aF.2 (show bK[j]? =some p by simpa using h);rw [this];congr 1;omega
theorem qN {ops:Array Oper}:∀{order:List Nat} {p i:Nat} {o:Oper},order[p]? =some i->ops[i]? =some o->(jQ ops order)[p]? =some o
 | [],p,i,o,h,_=>by simp at h
 | x::xs,p,i,o,h,bG=>by
   cases p with
   | zero=>
     simp only [aoR,aoC] at h;subst h;simp [jQ,bG]
   | succ p=>simpa [jQ] using qN (show xs[p]? =some i by simpa using h) bG
theorem zU {ops:Array Oper}:∀{order:List Nat},(jQ ops order).length=order.length
 | []=>rfl
 | x::xs=>by simp [jQ,zU (order:=xs)]
structure Cert (P:Program) (aL:Nat) (ops:Array Oper) (calls:Nat->gB) (es:List ir) (aW:c7) (aM:ah) (fL:c7) (aE:ah) (hd:List Nat) (order aK:List Nat) (N M:Nat) (lit:Bool):Prop where
 len:es.length=N
 CD:N<=ops.size
 zR:N<=M
 jd:∀k,k<ops.size->posOf aK k<ops.size/\order[posOf aK k]? =some k
 mE:∀p,p<ops.size->∃i,i<ops.size/\posOf aK i=p
 aM:dM es aE 0=aM
 aW:fF es fL 0=aW
 step:∀i o,ops[i]? =some o->posOf aK i<N->∃e,es[posOf aK i]? =some e/\(et P aL ops o).run (calls i) e.r e.h=.val e.v (dM es aE (posOf aK i+1))/\fF es fL (posOf aK i+1)=(kx o.dst).run e.r e.v
 yW:∀i o,ops[i]? =some o->∃ei,(gk [] ops.toList)[i]? =some ei/\sI i o=true/\(posOf aK i<M->
  ∀k ok,ops[k]? =some ok->posOf aK k<M->∃mk,(gk [] ops.toList)[k]? =some mk/\ue i ei (c9 ops o) o.dst k mk ok (Nat.blt (posOf aK k) (posOf aK i))=true/\(ib P o.op=true->gj P ok=true->posOf aK k<posOf aK i->hD ei k=true\/(lit=true/\zt o=true/\zt ok=true)))
 ends:N ∈ hd
 mem:∀j o,ops[j]? =some o->gj P o=true->posOf aK j ∈ hd
 Tf:∀s ∈ hd,(s=ops.size\/(s=N/\M=N))\/∃k o,ops[k]? =some o/\gj P o=true/\s=posOf aK k
 ask:∀j o,ops[j]? =some o->looks o.op=true->ib P o.op=false->posOf aK j<N->∃e,es[posOf aK j]? =some e/\∀s ∈ hd,
  vB P (gk [] ops.toList) ops.toList aK j (((gk [] ops.toList)[j]?).getD 0) s=true->∃c ae,(iq P c/\iC P c)/\(et P aL ops o).run c e.r (dM es aE s)=.val e.v ae
 tail:M<ops.size->M=N/\∀k ok mk,ops[k]? =some ok->N<=posOf aK k->(gk [] ops.toList)[k]? =some mk->∀j,j<ops.size->posOf aK j<N->hD mk j=true
 stop:N<ops.size->ops.size<=M->∃i0 l8 m0,ops[i0]? =some l8/\posOf aK i0=N/\nK l8.op=true/\(gk [] ops.toList)[i0]? =some m0/\
  (∀k ok mk,ops[k]? =some ok->N<posOf aK k->(gk [] ops.toList)[k]? =some mk->hD mk i0=true)/\
  (∀k ok,ops[k]? =some ok->jo ok=true->posOf aK k<N->hD m0 k=true)/\∃v ae,(et P aL ops l8).run (calls i0) fL aE=.fY v ae
theorem JJ {o:Oper} (h:nK o.op=true):ib P o.op=true/\jo o=false:=by
 obtain ⟨dst,op,type,pos,after,guard⟩:=o;cases op<;>simp only [nK] at h<;>try (cases h;done)
 . rename_i c;obtain ⟨callee,args,types⟩:=c;cases callee<;>simp only at h<;>try (cases h;done)
   exact ⟨rfl,rfl⟩
 . exact ⟨rfl,rfl⟩
variable {aL:Nat} {ops:Array Oper} {call:gB} {calls:Nat->gB} {es:List ir} {aW:c7} {aM:ah} {fL:c7} {aE:ah} {hd:List Nat} {order aK:List Nat} {N M:Nat} {lit:Bool}
theorem Cert.vJ (C:Cert P aL ops calls es aW aM fL aE hd order aK N M lit) {k b0:Nat} (ad:k<ops.size) (ag:b0<ops.size) (he:posOf aK k=posOf aK b0):k=b0:=by have a:=(C.jd k ad).2;have b:=(C.jd b0 ag).2;rw [he,b] at a;cases a;rfl
theorem aan {ops:Array Oper} {aK:List Nat} (aE:DR P ops aK=true):∀i o,ops[i]? =some o->∃ei,(gk [] ops.toList)[i]? =some ei/\sI i o=true/\
 ∀k ok,ops[k]? =some ok->∃mk,(gk [] ops.toList)[k]? =some mk/\ue i ei (c9 ops o) o.dst k mk ok (Nat.blt (posOf aK k) (posOf aK i))=true/\(ib P o.op=true->gj P ok=true->posOf aK k<posOf aK i->hD ei k=true):=by
 intro i o aJ;unfold DR at aE;obtain ⟨ei,ad,ag⟩:=uL aE i o (by simpa using aJ);simp only [aph,aoE] at ag;refine ⟨ei,ad,ag.1,fun k ok aD=>?_⟩;obtain ⟨mk,c8,dJ⟩:=uL ag.2 k ok (by simpa using aD);simp only [aph,aoE] at dJ;refine ⟨mk,c8,dJ.1,fun aO bs a7=>?_⟩;have gU:=dJ.2;rw [aO,bs,ap1,show Nat.blt (posOf aK k) (posOf aK i)=true from by rw [ape];exact a7] at gU;exact gU
theorem Cert.KD (C:Cert P aL ops calls es aW aM fL aE hd order aK N M lit):∀p,p<=N->∀t,t<=top->
 (∃k o e,posOf aK k<p/\ops[k]? =some o/\o.dst=some t/\es[posOf aK k]? =some e/\T.get .bad (ao t) (fF es fL p)=e.v)\/
 ((∀k o,posOf aK k<p->ops[k]? =some o->o.dst≠some t)/\T.get .bad (ao t) (fF es fL p)=T.get .bad (ao t) aW)
 | 0,_,t,az=>.inr ⟨fun k o h=>by omega,by rw [C.aW]⟩
 | p+1,aJ,t,az=>by
   obtain ⟨i,a7,mx⟩:=C.mE p (by have:=C.CD;omega);have dG:ops[i]? =some ops[i]:=ao1 a7;obtain ⟨e,ad,ag,ar⟩:=C.step i ops[i] dG (by omega);rw [mx] at ad ag ar;have I1:fF es fL p=e.r:=by simp [fF,ad]
   have fe:=PD (r:=e.r) (v:=e.v) (nD ag).1 az;rw [ar,fe];by_cases bk:ops[i].dst=some t
   . rw [aoN bk];exact .inl ⟨i,_,e,by omega,dG,bk,by rw [mx];exact ad,rfl⟩
   . rw [aoI bk,<-I1];rcases Cert.KD C p (by omega) t az with ⟨k,o,fi,an,av,aB,bt,ca⟩ | ⟨an,av⟩
     . exact .inl ⟨k,o,fi,by omega,av,aB,bt,ca⟩
     . refine .inr ⟨fun k o aD bG=>?_,av⟩;by_cases k6:k=i
       . subst k6;rw [dG] at bG;cases bG;exact bk
       . refine an k o ?_ bG;have mX:=(aoD.1 bG).1;have:posOf aK k≠p:=fun e=>k6 (C.vJ mX a7 (by rw [e,mx]));omega
theorem Cert.OY (C:Cert P aL ops calls es aW aM fL aE hd order aK N M lit):∀p,p<=N->T.get .bad mj (fF es fL p)=T.get .bad mj aW
 | 0,_=>by rw [C.aW]
 | p+1,aJ=>by
   obtain ⟨i,a7,mx⟩:=C.mE p (by have:=C.CD;omega);have dG:ops[i]? =some ops[i]:=ao1 a7;obtain ⟨e,ad,ag,ar⟩:=C.step i ops[i] dG (by omega);rw [mx] at ad ag ar;have I1:fF es fL p=e.r:=by simp [fF,ad]
   have bk:=(nD ag).1;rw [ar,<-Cert.OY C p (by omega),I1];cases acx:ops[i].dst with
   | none=>rfl
   | some d=>
     rw [acx] at bk;simp only [hn,aoE,aoT] at bk;simp only [kx];rw [T.mT,aoI (Kf bk.2)]
def nameAt (es:List ir) (aE:ah) (aK:List Nat) (k:Nat):aN:=ao (dM es aE (posOf aK k)).next
def A2 (es:List ir) (aE:ah) (aK:List Nat) (k:Nat):c_:=(dM es aE (posOf aK k+1)).get (nameAt es aE aK k)
def Made (es:List ir) (aE:ah) (aK:List Nat) (k:Nat):Prop:=(dM es aE (posOf aK k+1)).next≠(dM es aE (posOf aK k)).next
def mh (ops:Array Oper) (es:List ir) (aE:ah) (aK:List Nat) (listed:Array Bool) (s k:Nat):Prop:=
 ∃o,ops[k]? =some o/\(jo o=true/\Made es aE aK k)/\¬listed.getD k false=true/\posOf aK k<s
structure Holds (aA F:Fr) (es:List ir) (aE:ah) (aK:List Nat) (D:Nat->Prop):Prop where
 w:F.w=aA.w
 cu:∀b,(∀k,D k->nameAt es aE aK k≠b)->F.kv b=aA.kv b
 new:∀k,D k->F.kv (nameAt es aE aK k)=some (A2 es aE aK k)/\aA.kv (nameAt es aE aK k)=none
 inj:∀k b0,D k->D b0->nameAt es aE aK k=nameAt es aE aK b0->k=b0
theorem Holds.congr {aA F:Fr} {D LD:Nat->Prop} (H:Holds aA F es aE aK D) (h:∀k,LD k↔D k):Holds aA F es aE aK LD:=
 ⟨H.w,fun b ai=>H.cu b fun k aD=>ai k ((h k).2 aD),fun k aD=>H.new k ((h k).1 aD),fun k b0 aD jB=>H.inj k b0 ((h k).1 aD) ((h b0).1 jB)⟩
theorem Holds.none {aA F:Fr} {D:Nat->Prop} (H:Holds aA F es aE aK D) (h:∀k,¬D k):F=aA:=by have:F.kv=aA.kv:=funext fun b=>H.cu b fun k aD=>absurd aD (h k);cases F;cases aA;have hw:=H.w;simp only at this hw;rw [this,hw]
theorem Cert.advance (C:Cert P aL ops calls es aW aM fL aE hd order aK N M lit) {aA:Fr} {listed:Array Bool} {E:Env} {w:World}:∀(d q:Nat),q+d=N->(∀k o,ops[k]? =some o->jo o=true->q<=posOf aK k->¬listed.getD k false=true)->
 ∀F,Holds aA F es aE aK (mh ops es aE aK listed q)->bD F E (dM es aE q) w->
 ∃s eX,s ∈ hd/\q<=s/\s<=N/\(∀k o,ops[k]? =some o->gj P o=true->q<=posOf aK k->s<=posOf aK k)/\Holds aA eX es aE aK (mh ops es aE aK listed s)/\bD eX E (dM es aE s) w
 | 0,q,aH,_,F,H,S=>by
   have:q=N:=by omega
   subst this;exact ⟨q,F,C.ends,aoz _,aoz _,fun k o _ _ h=>h,H,S⟩
 | d+1,q,aH,vl,F,H,S=>by
   obtain ⟨i,a7,mx⟩:=C.mE q (by have:=C.CD;omega);have dG:ops[i]? =some ops[i]:=ao1 a7;cases w1:gj P ops[i] with
   | true=>exact ⟨q,F,by rw [<-mx];exact C.mem i _ dG w1,aoz _,by omega,fun k o _ _ h=>h,H,S⟩
   | false=>
     obtain ⟨e,ad,ag,ar⟩:=C.step i ops[i] dG (by omega);rw [mx] at ad ag;have vh:dM es aE q=e.h:=by simp [dM,ad]
     have only:∀k o,ops[k]? =some o->posOf aK k=q->k=i:=fun k o aD aF=>C.vJ (aoD.1 aD).1 a7 (by rw [aF,mx]);have fin:∀eX,Holds aA eX es aE aK (mh ops es aE aK listed (q+1))->bD eX E (dM es aE (q+1)) w->
      ∃s eX,s ∈ hd/\q<=s/\s<=N/\(∀k o,ops[k]? =some o->gj P o=true->q<=posOf aK k->s<=posOf aK k)/\Holds aA eX es aE aK (mh ops es aE aK listed s)/\bD eX E (dM es aE s) w:=by
      intro eX ki Vb;obtain ⟨s,sX,g1,g2,g3,g4,g5,g6⟩:=Cert.advance C d (q+1) (by omega) (fun k o ad ag ar=>vl k o ad ag (by omega)) eX ki Vb;refine ⟨s,sX,g1,by omega,g3,fun k o aD ax aF=>g4 k o aD ax ?_,g5,g6⟩;by_cases IZ:posOf aK k=q
      . have:=only k o aD IZ;subst this;rw [dG] at aD;cases aD;rw [w1] at ax;cases ax
      . omega
     have pass:dM es aE (q+1)=e.h->(jo ops[i]=true->¬Made es aE aK i)->∃s eX,s ∈ hd/\q<=s/\s<=N/\(∀k o,ops[k]? =some o->gj P o=true->q<=posOf aK k->s<=posOf aK k)/\Holds aA eX es aE aK (mh ops es aE aK listed s)/\bD eX E (dM es aE s) w:=by
      intro zg oh;rw [<-vh] at zg;refine fin F (H.congr fun k=>⟨?_,?_⟩) (by rw [zg];exact S)
      . rintro ⟨o,an,av,aB,bt⟩;refine ⟨o,an,av,aB,?_⟩;have:posOf aK k≠q:=fun e=>by
         have:=only k o an e;subst this;rw [dG] at an;cases an;exact oh av.1 av.2
        omega
      . rintro ⟨o,an,av,aB,bt⟩;exact ⟨o,an,av,aB,by omega⟩
     cases b5:jo ops[i] with
     | true=>
      rcases OT b5 ag with ⟨dL,c8,dJ⟩ | ⟨c8,_⟩
      ·
       have al:=S.hold dL;have aI:nameAt es aE aK i=ao (dM es aE q).next:=by unfold nameAt;rw [mx]
       have ai:A2 es aE aK i=dL:=by unfold A2;rw [aI,mx,c8,vh,ah.k2,aoN rfl]
       rw [vh,<-c8] at al;have ac6:Made es aE aK i:=by unfold Made;rw [mx,c8,vh];exact Nat.succ_ne_self _
       have vk:¬listed.getD i false=true:=vl i _ dG b5 (by omega);have Ho:∀k,mh ops es aE aK listed (q+1) k->k=i\/mh ops es aE aK listed q k:=by
        rintro k ⟨o,an,av,aB,bt⟩;by_cases IZ:posOf aK k=q
        . exact .inl (only k o an IZ)
        . exact .inr ⟨o,an,av,aB,by omega⟩
       have fresh:∀b xr,F.kv b=some xr->b≠nameAt es aE aK i:=by intro b xr qp heq;obtain ⟨_,_,j,vt,tR⟩:=S.rL b xr qp;rw [heq,aI] at tR;rw [vh] at vt tR;have:=nR tR;omega
       have QI:∀b,b≠nameAt es aE aK i->(F.hold (ao e.h.next) dL).kv b=F.kv b:=by intro b PW;rw [aI,vh] at PW;simp only [Fr.hold,aoI PW]
       have V6:(F.hold (ao e.h.next) dL).kv (nameAt es aE aK i)=some dL:=by rw [aI,vh];simp only [Fr.hold,aoM]
       have ne:∀k,mh ops es aE aK listed q k->nameAt es aE aK k≠nameAt es aE aK i:=fun k aD=>fresh _ _ (H.new k aD).1;refine fin (F.hold (ao e.h.next) dL) ⟨H.w,fun b qp=>?_,fun k aD=>?_,fun k b0 aD jB he=>?_⟩ al
       . have wY:b≠nameAt es aE aK i:=fun e=>qp i ⟨_,dG,⟨b5,ac6⟩,vk,by omega⟩ e.symm;rw [QI b wY];exact H.cu b fun k aD=>qp k (by obtain ⟨o,an,av,aB,bt⟩:=aD;exact ⟨o,an,av,aB,by omega⟩)
       . rcases Ho k aD with rfl | aD
         . refine ⟨by rw [V6,ai],?_⟩;cases aF:aA.kv (nameAt es aE aK k) with
           | none=>rfl
           | some xr=>
             exfalso;have:=H.cu (nameAt es aE aK k) fun b0 jB=>ne b0 jB;rw [aF] at this;exact fresh _ _ this rfl
         . rw [QI _ (ne k aD)];exact H.new k aD
       . rcases Ho k aD with rfl | aD<;>rcases Ho b0 jB with rfl | jB
         . rfl
         . exact absurd he.symm (ne b0 jB)
         . exact absurd he (ne k aD)
         . exact H.inj k b0 aD jB he
      . refine pass c8 fun _ hm=>hm ?_;rw [mx,c8,vh]
     | false=>
       have d':ib P ops[i].op=false:=by unfold gj at w1;rw [b5] at w1;simpa using w1
       exact pass (Bi d' ag).1 fun h=>by rw [b5] at h;cases h
structure uN (P:Program) (aA:Fr) (aL:Nat) (ops:Array Oper) (es:List ir) (aW:c7) (aE:ah) (hd aK:List Nat) (jX:Env) (N:Nat) (D:List Deferred) (listed:Array Bool) (a:Act) (w:World):Prop where
 Ct:listed.size=ops.size
 size:a.tmps.size=aL
 defers:a.defers=D
 u0:∀k,listed.getD k false=true->posOf aK k<N
 down:rX ops fun k=>listed.getD k false=true
 main:∃E s F,jX.le E/\s ∈ hd/\s<=N/\(∀k o,ops[k]? =some o->gj P o=true->(listed.getD k false=true↔posOf aK k<s))/\
  (∀k o,ops[k]? =some o->jo o=true->listed.getD k false=true->posOf aK k<s)/\Holds aA F es aE aK (mh ops es aE aK listed s)/\bD F E (dM es aE s) w/\
  ∀t,t<=top->(∃k o e,listed.getD k false=true/\ops[k]? =some o/\o.dst=some t/\es[posOf aK k]? =some e/\Rel E e.v (a.tmps.getD t undef))\/
   ((∀k o,listed.getD k false=true->ops[k]? =some o->o.dst≠some t)/\Rel E (T.get .bad (ao t) aW) (a.tmps.getD t undef))
theorem wQ {l:Array Bool} {i:Nat}:l.getD i false=true↔l[i]? =some true:=by
 rw [ao4];cases l[i]? with
 | none=>simp
 | some b=>cases b<;>simp
theorem iz {l:Array Bool} {i k:Nat} (aJ:i<l.size):(l.setIfInBounds i true).getD k false=true↔(k=i\/l.getD k false=true):=by
 rw [wQ,wQ,aoY];by_cases h:i=k
 . subst h;simp [aJ]
 . have:¬k=i:=fun e=>h e.symm;simp [h,this]
theorem D5 {r:c7} {t:Nat} (az:t<=top):∀{l:List Oper},T.get .bad (ao t) (oW r l)=.bad\/(T.get .bad (ao t) (oW r l)=T.get .bad (ao t) r/\∀o ∈ l,o.dst≠some t)
 | []=>.inr ⟨rfl,fun o bG=>by simp at bG⟩
 | o::os=>by
   simp only [oW];cases bk:o.dst with
   | none=>
     simp only;rcases D5 (r:=r) az (l:=os) with h | ⟨ad,ag⟩
     . exact .inl h
     . exact .inr ⟨ad,fun dV jm=>by
        rcases ao7.1 jm with rfl | jm
        . rw [bk];simp
        . exact ag dV jm⟩
   | some d=>
     simp only;cases ai:Nat.ble d top with
     | true=>
       simp only [aoJ];rw [T.mT];by_cases w5:d=t
       . subst w5;rw [aoN rfl];exact .inl rfl
       . rw [aoI (fun e=>w5 (nR e))];rcases D5 (r:=r) az (l:=os) with h | ⟨ad,ag⟩
         . exact .inl h
         . exact .inr ⟨ad,fun dV jm=>by
            rcases ao7.1 jm with rfl | jm
            . rw [bk];simpa using w5
            . exact ag dV jm⟩
     | false=>
       simp only [aoP];have w5:d≠t:=fun e=>by subst e;rw [<-Nat.ble_eq] at az;rw [az] at ai;cases ai
       rcases D5 (r:=r) az (l:=os) with h | ⟨ad,ag⟩
       . exact .inl h
       . exact .inr ⟨ad,fun dV jm=>by
          rcases ao7.1 jm with rfl | jm
          . rw [bk];simpa using w5
          . exact ag dV jm⟩
theorem D4 {r:c7}:∀{l:List Oper},T.get .bad mj (oW r l)=T.get .bad mj r
 | []=>rfl
 | o::os=>by
   simp only [oW];cases bk:o.dst with
   | none=>exact D4
   | some d=>
     simp only;cases ai:Nat.ble d top with
     | true=>
       simp only [aoJ];rw [T.mT,aoI (Kf (apd ai))];exact D4
     | false=>exact D4
theorem aaq {rd:Option Nat} {D:List Deferred} {aA:Fr} (cQ:hh P) (fJ:∀i,iq P (calls i)) (hU:∀i,iC P (calls i)) (C:Cert P aL ops calls es aW aM fL aE hd order aK N M lit) {jX:Env} {listed:Array Bool} {a:Act} {w:World} (I:uN P aA aL ops es aW aE hd aK jX N D listed a w)
 {i:Nat} (aJ:i ∈ Region.ready .any ops listed) (acQ:posOf aK i<M) (acT:lit=true->∀o k ok,ops[i]? =some o->zt o=true->ops[k]? =some ok->zt ok=true->posOf aK k<posOf aK i->listed.getD k false=true) {Q:Exit->Act->World->Prop} {K:Act->World->Prop} (ez:∀bF w',uN P aA aL ops es aW aE hd aK jX N D (listed.setIfInBounds i true) bF w'->K bF w')
 (b':∀aw bF w' x v ae,jX.le aw->N<ops.size->ops.size<=M->(∃i0 l8,ops[i0]? =some l8/\posOf aK i0=N/\(et P aL ops l8).run (calls i0) fL aE=.fY v ae)->RegRel0 aw aL (oW aW ops.toList) bF->bF.defers=D->Rel aw v x->bD aA aw ae w'->Q (.panic (nS x)) bF w'):wpOpIn (aq rd) 0 P ops Q i K a w:=by
 rw [mem_ready] at aJ;obtain ⟨E,s,F,eh,al,zi,oe,gq,mW,su,xh⟩:=I.main;obtain ⟨vl,o,dG,w6⟩:=aJ;have hP:i<ops.size:=(aoD.1 dG).1;have vm:¬listed.getD i false=true:=by rw [wQ];intro h;rw [ao4,h] at vl;simp at vl
 have Qe:=Cw I.down ops.toList [] (fun j=>by simp) (fun k m j aD=>by simp at aD);have y2:rX ops fun k=>listed.getD k false=true\/k=i:=by
  intro k ok e aD br he ai;rcases aD with aD | rfl
  . exact .inl (I.down k ok e aD br he ai)
  . rw [dG] at br;cases br;exact .inl (w6 e (apR.1 he) (by rw [yH];exact ai))
 have ac4:=Cw y2 ops.toList [] (fun j=>by simp) (fun k m j aD=>by simp at aD);obtain ⟨ei,og,m',EI⟩:=C.yW i o dG;have EI:=EI acQ;have H9:=C.zR;have BG:∀k,k≠i->hD ei k=true->listed.getD k false=true:=by
  intro k aD ai;rcases ac4 i ei k og ai (.inr rfl) with h | h
  . exact h
  . exact absurd h aD
 have j7:=(C.jd i hP).1;have adr:posOf aK i<=N:=by
  rcases apK N (posOf aK i) with acK | hle
  . exfalso;have Ek:ops.size<=M:=by
     rcases apK M ops.size with h | h
     . have:=(C.tail h).1;omega
     . exact h
    obtain ⟨i0,l8,m0,c0,z2,z3,z4,z5,_⟩:=C.stop (by omega) Ek;have ai:=z5 i o ei dG acK og;have ad:=BG i0 (fun e=>by subst e;omega) ai;have:=I.u0 i0 ad;omega
  . exact hle
 have uniq:∀(k b0:Nat) (ok mD:Oper) (t:Nat),ops[k]? =some ok->ops[b0]? =some mD->posOf aK k<M->posOf aK b0<M->ok.dst=some t->mD.dst=some t->k=b0:=by
  intro k b0 ok mD t ad ag bT c2 ar aT;obtain ⟨mk,_,_,aF⟩:=C.yW k ok ad;obtain ⟨mk',_,h1,_⟩:=aF bT b0 mD ag c2;unfold ue at h1;rw [oR] at h1;by_cases l2:k=b0
  . exact l2
  . rw [aoI l2,aT,ar] at h1;simp at h1
 have Sy:kc (c9 ops o)=true->∀t ∈ c9 ops o,Rel E (T.get .bad (ao t) (fF es fL (posOf aK i))) (a.tmps.getD t undef):=by
  intro tJ t az;have zm:t<=top:=by have:=ao9.1 tJ t az;exact apd this
  have R1:∀(k:Nat) (ok:Oper),k≠i->posOf aK k<M->ops[k]? =some ok->ok.dst=some t->∃mk,(gk [] ops.toList)[k]? =some mk/\(posOf aK k<posOf aK i->hD ei k=true)/\(¬posOf aK k<posOf aK i->hD mk i=true):=by
   intro k ok aD ID br bk;obtain ⟨mk,an,av,_⟩:=EI k ok br ID;refine ⟨mk,an,?_⟩;unfold ue at av;rw [oR,aoI (fun e=>aD e.symm),bk] at av;simp only [aoE] at av;have aB:=av.1;rw [show (c9 ops o).contains t=true from by simpa using az] at aB;simp only [aoJ] at aB;refine ⟨fun a7=>?_,fun o5=>?_⟩
   . rw [show Nat.blt (posOf aK k) (posOf aK i)=true from by rw [ape];exact a7] at aB;exact aB
   . rw [show Nat.blt (posOf aK k) (posOf aK i)=false from by rw [<-Bool.not_eq_true,ape];exact o5] at aB;exact aB
  rcases C.KD (posOf aK i) adr t zm with ⟨k,ok,yO,an,av,aB,bt,ca⟩ | ⟨an,av⟩
  . obtain ⟨mk,_,gx,_⟩:=R1 k ok (fun e=>by subst e;omega) (by omega) av aB;have ac0:=BG k (fun e=>by subst e;omega) (gx an);rcases xh t zm with ⟨b0,mD,HD,cg,cY,eS,iP,np⟩ | ⟨cg,_⟩
    . have:=uniq k b0 ok mD t av cY (by omega) (by have:=I.u0 b0 cg;omega) aB eS;subst this;rw [bt] at iP;cases iP;rw [ca];exact np
    . exact absurd aB (cg k ok ac0 av)
  . rcases xh t zm with ⟨b0,mD,HD,cg,cY,eS,iP,np⟩ | ⟨_,cY⟩
    . have k6:b0≠i:=fun e=>vm (e ▸ cg);obtain ⟨mk,m1,_,eR⟩:=R1 b0 mD k6 (by have:=I.u0 b0 cg;omega) cY eS;by_cases a7:posOf aK b0<posOf aK i
      . exact absurd eS (an b0 mD a7 cY)
      . exact absurd (Qe b0 mk i m1 (eR a7) cg) vm
    . rw [av];exact cY
 have level:ib P o.op=true->s<=posOf aK i->s=posOf aK i/\jo o=false:=by
  intro nE hle;rcases C.Tf s al with (h | ⟨h,Ej⟩) | ⟨k,ok,c8,dJ,gU⟩
  . omega
  . omega
  . have za:¬listed.getD k false=true:=fun h=>by have:=(oe k ok c8 dJ).1 h;omega
    have mX:=(aoD.1 c8).1;by_cases k6:k=i
    . subst k6;rw [dG] at c8;cases c8;refine ⟨gU,?_⟩;unfold gj at dJ;simpa [nE] using dJ
    . have a7:posOf aK k<posOf aK i:=by
       have:posOf aK k≠posOf aK i:=fun e=>k6 (C.vJ mX hP e);omega
      obtain ⟨mk,_,_,aB⟩:=EI k ok c8 (by omega);rcases aB nE dJ a7 with h | ⟨g1,g2,g3⟩
      . exact absurd (BG k k6 h) za
      . exact absurd (acT g1 o k ok dG g2 c8 g3 a7) za
 rcases apK (posOf aK i) N with IL | anA
 case inr=>
  have oj:posOf aK i=N:=by omega
  have Ek:ops.size<=M:=by
   rcases apK M ops.size with h | h
   . have:=(C.tail h).1;omega
   . exact h
  obtain ⟨i0,l8,m0,c0,z2,z3,z4,z5,ke,v,ae,Ls⟩:=C.stop (by omega) Ek;have acS:i0=i:=C.vJ (aoD.1 c0).1 hP (by rw [z2,oj]);subst acS;rw [dG] at c0;cases c0;rw [og] at z4;cases z4;obtain ⟨nE,ac_⟩:=JJ z3;have BI:gj P o=true:=by unfold gj;rw [nE,ac_];rfl
  have I5:s<=posOf aK i0:=by
   rcases apK (posOf aK i0) s with h | h
   . exact absurd ((oe i0 o dG BI).2 h) vm
   . exact h
  have zh:=(level nE I5).1;have hF:F=aA:=mW.none fun k aD=>by
   obtain ⟨ok,an,av,aB,bt⟩:=aD;have k6:k≠i0:=fun e=>by subst e;omega
   exact aB (BG k k6 (ke k ok an av.1 (by omega)))
  subst hF;have e9:es[N]? =none:=ao3 (by rw [C.len];exact aoz _);have mz:=Sy (HA Ls).2;rw [oj] at mz;simp only [fF,e9] at mz;rw [zh,oj] at su;simp only [dM,e9] at su;refine OR cQ (fJ i0) (hU i0) dG Ls z3 I.size mz su fun aw x w' an av aB=>b' aw a w' x v ae (eh.trans an) (by omega) Ek ⟨i0,o,dG,oj,Ls⟩ ⟨I.size,fun t az=>?_⟩ I.defers av aB;rcases D5 (r:=aW) az (l:=ops.toList) with h | ⟨ad,ag⟩
  . rw [h];simp [Rel]
  . rw [ad];rcases xh t az with ⟨k,ok,yO,cg,cY,eS,iP,np⟩ | ⟨cg,cY⟩
    . exact absurd eS (ag ok (by rw [<-Array.getElem?_toList] at cY;exact apJ cY))
    . exact Rel.mono an _ _ cY
 obtain ⟨e,Eu,eQ,anN⟩:=C.step i o dG IL;have ia:=nD eQ;have fU:fF es fL (posOf aK i)=e.r:=by simp [fF,Eu]
 have ly:dM es aE (posOf aK i)=e.h:=by simp [dM,Eu]
 have reads:=Sy ia.2;rw [fU] at reads;have hW:i<listed.size:=by rw [I.Ct];exact hP
 have after:∀(jS:Nat) (eX:Fr) (aw:Env) (x:Value) (w':World),jS ∈ hd->jS<=N->(∀k ok,ops[k]? =some ok->gj P ok=true->((k=i\/listed.getD k false=true)↔posOf aK k<jS))->
  (∀k ok,ops[k]? =some ok->jo ok=true->(k=i\/listed.getD k false=true)->posOf aK k<jS)->
  Holds aA eX es aE aK (mh ops es aE aK (listed.setIfInBounds i true) jS)->E.le aw->Rel aw e.v x->bD eX aw (dM es aE jS) w'->
  uN P aA aL ops es aW aE hd aK jX N D (listed.setIfInBounds i true) (a.put o.dst x) w':=by
  intro jS eX aw x w' l4 adI j3 acd acL hle au adF
  refine ⟨by simp [I.Ct],by cases h:o.dst<;>simp [Act.put,I.size],by cases h:o.dst<;>simp [Act.put,I.defers],fun k aD=>by
   rcases (iz hW).1 aD with rfl | aD
   . exact IL
   . exact I.u0 k aD,?_,aw,jS,eX,eh.trans hle,l4,adI,fun k ok ad ag=>by rw [iz hW];exact j3 k ok ad ag,
   fun k ok ad ag ar=>acd k ok ad ag ((iz hW).1 ar),acL,adF,fun t az=>?_⟩
  . intro k ok fi aD br gT ai;rw [iz hW] at aD ⊢;rcases y2 k ok fi aD.symm br gT ai with h | h
    . exact .inr h
    . exact .inl h
  . by_cases bk:o.dst=some t
    . refine .inl ⟨i,o,e,by rw [iz hW];exact .inl rfl,dG,bk,Eu,?_⟩;have a7:t<a.tmps.size:=by
       have:=ia.1;rw [bk] at this;simp only [hn,aoE,ape] at this;rw [I.size];exact this.1
      rw [bk];simp only [Act.put];rw [ao4,aoY,aoN rfl,aoN a7];exact au
    . have fe:(a.put o.dst x).tmps.getD t undef=a.tmps.getD t undef:=by
       cases adl:o.dst with
       | none=>rfl
       | some d=>
         simp only [Act.put];rw [ao4,ao4,aoY,aoI (fun e=>bk (by rw [adl,e]))]
      rw [fe];rcases xh t az with ⟨k,ok,yO,cg,cY,eS,iP,np⟩ | ⟨cg,cY⟩
      . exact .inl ⟨k,ok,yO,by rw [iz hW];exact .inr cg,cY,eS,iP,Rel.mono hle _ _ np⟩
      . refine .inr ⟨fun k ok aD br=>?_,Rel.mono hle _ _ cY⟩;rw [iz hW] at aD;rcases aD with rfl | aD
        . rw [dG] at br;cases br;exact bk
        . exact cg k ok aD br
 have Is:¬(jo o=true/\Made es aE aK i)->∀jS k,mh ops es aE aK (listed.setIfInBounds i true) jS k↔mh ops es aE aK listed jS k:=by
  intro b5 jS k;constructor
  . rintro ⟨ok,an,av,aB,bt⟩;exact ⟨ok,an,av,fun h=>aB ((iz hW).2 (.inr h)),bt⟩
  . rintro ⟨ok,an,av,aB,bt⟩;refine ⟨ok,an,av,fun h=>?_,bt⟩;rcases (iz hW).1 h with rfl | h
    . rw [dG] at an;cases an;exact b5 av
    . exact aB h
 cases nE:ib P o.op with
 | true=>
   cases b5:jo o with
   | true=>
     have a7:posOf aK i<s:=by
      rcases apK (posOf aK i) s with h | h
      . exact h
      . have:=(level nE h).2;rw [b5] at this;cases this
     by_cases hm:Made es aE aK i
     case neg=>
      have I3:(et P aL ops o).run (calls i) e.r (dM es aE s)=.val e.v (dM es aE s):=by
       rcases OT b5 eQ with ⟨dL,c8,_⟩ | ⟨_,c8⟩
       . exact absurd (show Made es aE aK i from by unfold Made;rw [c8,ly];exact Nat.succ_ne_self _) hm
       . exact c8 _
      refine r_ cQ (fJ i) (hU i) dG I3 I.size reads su fun aw x w' an av aB=>ez _ _ (after s F aw x w' al zi (fun k ok br k5=>?_) (fun k ok br rp aD=>?_) (mW.congr fun k=>Is (fun h=>hm h.2) s k) an av aB)
      . constructor
        . rintro (rfl | h)
          . rw [dG] at br;cases br;unfold gj at k5;rw [b5] at k5;simp at k5
          . exact (oe k ok br k5).1 h
        . intro h;exact .inr ((oe k ok br k5).2 h)
      . rcases aD with rfl | aD
        . exact a7
        . exact gq k ok br rp aD
     have pF:mh ops es aE aK listed s i:=⟨o,dG,⟨b5,hm⟩,vm,a7⟩;have IP:(dM es aE (posOf aK i+1)).next≠e.h.next:=by rw [<-ly];exact hm
     have oh:nameAt es aE aK i=ao e.h.next:=by unfold nameAt;rw [ly]
     have oi:=(mW.new i pF).1;have zp:=(mW.new i pF).2;have wZ:A2 es aE aK i=(dM es aE (posOf aK i+1)).get (ao e.h.next):=by unfold A2;rw [oh]
     rw [oh,wZ] at oi;refine aal dG b5 eQ I.size reads su IP oi fun aw x w' an av aB=>ez _ _ (after s (F.free (ao e.h.next)) aw x w' al zi (fun k ok br k5=>?_) (fun k ok br rp aD=>?_) ?_ an av aB)
     . constructor
       . rintro (rfl | h)
         . rw [dG] at br;cases br;unfold gj at k5;rw [b5] at k5;simp at k5
         . exact (oe k ok br k5).1 h
       . intro h;exact .inr ((oe k ok br k5).2 h)
     . rcases aD with rfl | aD
       . exact a7
       . exact gq k ok br rp aD
     . have sub:∀k,mh ops es aE aK (listed.setIfInBounds i true) s k->mh ops es aE aK listed s k/\k≠i:=by
        rintro k ⟨ok,an,av,aB,bt⟩;refine ⟨⟨ok,an,av,fun h=>aB ((iz hW).2 (.inr h)),bt⟩,fun e=>aB ((iz hW).2 (.inl e))⟩
       refine ⟨mW.w,fun b ai=>?_,fun k aD=>?_,fun k b0 aD jB=>mW.inj k b0 (sub k aD).1 (sub b0 jB).1⟩
       . by_cases wY:b=ao e.h.next
         . subst wY;simp only [Fr.free,aoM];rw [<-oh,zp]
         . simp only [Fr.free,aoI wY];refine mW.cu b fun k aD=>?_;by_cases k6:k=i
           . subst k6;rw [oh];exact fun e=>wY e.symm
           . obtain ⟨ok,an,av,aB,bt⟩:=aD;refine ai k ⟨ok,an,av,fun h=>?_,bt⟩;rcases (iz hW).1 h with h | h
             . exact k6 h
             . exact aB h
       . obtain ⟨P',k6⟩:=sub k aD;have d':nameAt es aE aK k≠ao e.h.next:=fun e=>k6 (mW.inj k i P' pF (by rw [e,oh]))
         simp only [Fr.free,aoI d'];exact mW.new k P'
   | false=>
     have BI:gj P o=true:=by unfold gj;rw [nE,b5];rfl
     have I5:s<=posOf aK i:=by
      rcases apK (posOf aK i) s with h | h
      . exact absurd ((oe i o dG BI).2 h) vm
      . exact h
     have zh:=(level nE I5).1;rw [<-ly,<-zh] at eQ;refine r_ cQ (fJ i) (hU i) dG eQ I.size reads su fun aw x w' an av aB=>?_;rw [zh] at aB;have acZ:∀k ok,ops[k]? =some ok->jo ok=true->posOf aK i+1<=posOf aK k->¬(listed.setIfInBounds i true).getD k false=true:=by
      intro k ok br rp aF h;rcases (iz hW).1 h with rfl | h
      . omega
      . have:=gq k ok br rp h;omega
     have acP:Holds aA F es aE aK (mh ops es aE aK (listed.setIfInBounds i true) (posOf aK i+1)):=by
      refine mW.congr fun k=>?_;rw [Is (fun h=>by rw [b5] at h;cases h.1)];constructor
      . rintro ⟨ok,c0,z2,z3,z4⟩;refine ⟨ok,c0,z2,z3,?_⟩;have mX:=(aoD.1 c0).1;have:posOf aK k≠posOf aK i:=fun e=>by
         have:=C.vJ mX hP e;subst this;rw [dG] at c0;cases c0;rw [b5] at z2;cases z2.1
        omega
      . rintro ⟨ok,c0,z2,z3,z4⟩;exact ⟨ok,c0,z2,z3,by omega⟩
     obtain ⟨jS,eX,g1,g2,g3,g4,g5,g6⟩:=C.advance (N - (posOf aK i+1)) (posOf aK i+1) (by omega) acZ F acP aB;refine ez _ _ (after jS eX aw x w' g1 g3 (fun k ok br k5=>?_) (fun k ok br rp aD=>?_) g5 an av g6)
     . have mX:=(aoD.1 br).1;constructor
       . rintro (rfl | h)
         . omega
         . have:=(oe k ok br k5).1 h;omega
       . intro h;by_cases k6:k=i
         . exact .inl k6
         . refine .inr ((oe k ok br k5).2 ?_);rcases apK (posOf aK k) s with bP | bP
           . exact bP
           . have d':posOf aK k≠posOf aK i:=fun e=>k6 (C.vJ mX hP e);have:=g4 k ok br k5 (by omega);omega
     . rcases aD with rfl | aD
       . omega
       . have:=gq k ok br rp aD;omega
 | false=>
   have b5:jo o=false:=by
    cases h:jo o with
    | false=>rfl
    | true=>rw [ael h] at nE;cases nE
   obtain ⟨c,ax,I3⟩:∃c,(iq P c/\iC P c)/\(et P aL ops o).run c e.r (dM es aE s)=.val e.v (dM es aE s):=by
    cases hx:looks o.op with
    | false=>exact ⟨_,⟨fJ i,hU i⟩,(Bi nE eQ).2 hx _⟩
    | true=>
      obtain ⟨fi,an,av⟩:=C.ask i o dG hx nE IL;rw [Eu] at an;cases an
      obtain ⟨c,ae,ax,aB⟩:=av s al (Lu (by rw [JI];simp) fun k mk ok ad ag=>by
       simp only [aph];have br:ops[k]? =some ok:=by simpa using ag
       cases BO:gj P ok with
       | false=>rfl
       | true=>
         simp only [aoJ];cases BP:Nat.blt (posOf aK k) s with
         | true=>
           rw [ape] at BP;simp only [aoJ,apH];cases ai:hD mk i with
           | false=>rfl
           | true=>exact absurd (Qe k mk i ad ai ((oe k ok br BO).2 BP)) vm
         | false=>
           have acX:¬posOf aK k<s:=by rw [<-Nat.blt_eq,BP];simp
           simp only [aoP,apH,og,ap2];cases ai:hD ei k with
           | false=>rfl
           | true=>
             by_cases k6:k=i
             . subst k6;rw [dG] at br;cases br;unfold gj at BO;rw [nE] at BO;cases BO
             . exact absurd ((oe k ok br BO).1 (BG k k6 ai)) acX)
      rw [(Bi nE aB).1] at aB;exact ⟨c,ax,aB⟩
   refine r_ cQ ax.1 ax.2 dG I3 I.size reads su fun aw x w' an av aB=>ez _ _ (after s F aw x w' al zi (fun k ok br k5=>?_) (fun k ok br rp aD=>?_) (mW.congr fun k=>Is (fun h=>by rw [b5] at h;cases h.1) s k) an av aB)
   . constructor
     . rintro (rfl | h)
       . rw [dG] at br;cases br;unfold gj at k5;rw [nE] at k5;cases k5
       . exact (oe k ok br k5).1 h
     . intro h;exact .inr ((oe k ok br k5).2 h)
   . rcases aD with rfl | aD
     . rw [dG] at br;cases br;rw [b5] at rp;cases rp
     . exact gq k ok br rp aD
theorem aae {D:List Deferred} {aA:Fr} (C:Cert P aL ops calls es aW aM fL aE hd order aK N M lit) {jX:Env} (H9:N<=M) {listed:Array Bool} {a:Act} {w:World} (I:uN P aA aL ops es aW aE hd aK jX N D listed a w)
 (gq:∀k,k<ops.size->posOf aK k<N->listed.getD k false=true):∃aw,jX.le aw/\RegRel0 aw aL fL a/\a.defers=D/\bD aA aw aE w:=by
 obtain ⟨E,s,F,eh,al,zi,oe,_,mW,su,xh⟩:=I.main;have e9:es[N]? =none:=ao3 (by rw [C.len];exact aoz _);have Ex:dM es aE N=aE:=by simp [dM,e9]
 have Qt:fF es fL N=fL:=by simp [fF,e9]
 have zh:s=N:=by
  rcases C.Tf s al with (h | ⟨h,_⟩) | ⟨k,ok,c8,dJ,gU⟩
  . have:=C.CD;omega
  . exact h
  . rcases apK s N with a7 | o5
    . have:=(oe k ok c8 dJ).1 (gq k (aoD.1 c8).1 (by omega));omega
    . omega
 subst zh;have hF:F=aA:=mW.none fun k aD=>by obtain ⟨ok,an,av,aB,bt⟩:=aD;exact aB (gq k (aoD.1 an).1 bt)
 subst hF;rw [Ex] at su;have Ej:∀k,posOf aK k<s->posOf aK k<M:=fun k h=>by omega
 refine ⟨E,eh,⟨I.size,fun t az=>?_⟩,I.defers,su⟩;have adS:∀(k b0:Nat) (ok mD:Oper),ops[k]? =some ok->ops[b0]? =some mD->posOf aK k<s->posOf aK b0<s->ok.dst=some t->mD.dst=some t->k=b0:=by
  intro k b0 ok mD ad ag bT c2 ar aT;obtain ⟨mk,_,_,aF⟩:=C.yW k ok ad;obtain ⟨mk',_,h1,_⟩:=aF (Ej k bT) b0 mD ag (Ej b0 c2);unfold ue at h1;rw [oR] at h1;by_cases l2:k=b0
  . exact l2
  . rw [aoI l2,aT,ar] at h1;simp at h1
 rcases C.KD s (aoz _) t az with ⟨k,ok,yO,an,av,aB,bt,ca⟩ | ⟨an,av⟩
 . rw [Qt] at ca;rcases xh t az with ⟨b0,mD,HD,cg,cY,eS,iP,np⟩ | ⟨cg,_⟩
   . have:=adS k b0 ok mD av cY an (I.u0 b0 cg) aB eS;subst this;rw [bt] at iP;cases iP;rw [ca];exact np
   . exact absurd aB (cg k ok (gq k (aoD.1 av).1 an) av)
 . rw [Qt] at av;rcases xh t az with ⟨b0,mD,HD,cg,cY,eS,iP,np⟩ | ⟨_,cY⟩
   . exact absurd eS (an b0 mD (I.u0 b0 cg) cY)
   . rw [av];exact cY
theorem OW {rd:Option Nat} {D:List Deferred} {aA:Fr} (cQ:hh P) (fJ:∀i,iq P (calls i)) (hU:∀i,iC P (calls i)) (C:Cert P aL ops calls es aW aM fL aE hd order aK N M false) {jX:Env} {Q:Exit->Act->World->Prop}
 (b':N=ops.size->∀aw bF w',jX.le aw->RegRel0 aw aL fL bF->bF.defers=D->bD aA aw aE w'->Q .normal bF w')
 (wU:∀aw bF w' x v ae,jX.le aw->N<ops.size->ops.size<=M->(∃i0 l8,ops[i0]? =some l8/\posOf aK i0=N/\(et P aL ops l8).run (calls i0) fL aE=.fY v ae)->RegRel0 aw aL (oW aW ops.toList) bF->bF.defers=D->Rel aw v x->bD aA aw ae w'->Q (.panic (nS x)) bF w')
 (eb:M<ops.size->∀(fuel:Nat) (listed:Array Bool) aw bF w',(List.range ops.size).countP (fun i=>!listed.getD i false)<=fuel->listed.size=ops.size->rX ops (fun k=>listed.getD k false=true)->(∀k,k<ops.size->(listed.getD k false=true↔posOf aK k<N))->
   jX.le aw->RegRel0 aw aL fL bF->bF.defers=D->bD aA aw aE w'->wpAnyIn (aq rd) 0 P .any ops Q fuel listed bF w'):∀(fuel:Nat) (listed:Array Bool) (a:Act) (w:World),(List.range ops.size).countP (fun i=>!listed.getD i false)<=fuel->
 uN P aA aL ops es aW aE hd aK jX N D listed a w->wpAnyIn (aq rd) 0 P .any ops Q fuel listed a w:=by
 have done:∀(listed:Array Bool) (a:Act) (w:World),uN P aA aL ops es aW aE hd aK jX N D listed a w->Region.ready .any ops listed=[]->∀i,i<ops.size->listed.getD i false=true:=by
  intro listed a w I U i
  induction i using Nat.strongRecOn with
  | _ i cc=>
    intro aJ;cases hW:listed.getD i false with
    | true=>rfl
    | false=>
      exfalso;have dG:ops[i]? =some ops[i]:=ao1 aJ;obtain ⟨ei,_,m',_⟩:=C.yW i _ dG;have:i ∈ Region.ready .any ops listed:=by
       rw [mem_ready];refine ⟨?_,ops[i],dG,fun e he ai=>?_⟩
       . have dH:i<listed.size:=by rw [I.Ct];exact aJ
         rw [ao4,ao1 dH] at hW ⊢;exact hW
       . have ad:=ao9.1 m' e (apR.2 he);rw [yH] at ai;rw [ai] at ad;simp only [Bool.not_true,Bool.false_or,ape] at ad;exact cc e.on ad (by omega)
      rw [U] at this;simp at this
 have H9:=C.zR;have full:∀(listed:Array Bool) (a:Act) (w:World),uN P aA aL ops es aW aE hd aK jX N D listed a w->(∀k,k<ops.size->posOf aK k<N->listed.getD k false=true)->(N=ops.size\/(M<ops.size/\M=N))->
  ∃aw,jX.le aw/\RegRel0 aw aL fL a/\a.defers=D/\bD aA aw aE w:=fun _ _ _ I gq _=>aae C H9 I gq
 have finish:∀(listed:Array Bool) (a:Act) (w:World),uN P aA aL ops es aW aE hd aK jX N D listed a w->Region.ready .any ops listed=[]->Q .normal a w:=by
  intro listed a w I U;have gq:=done listed a w I U;have PO:N=ops.size:=by
   rcases apK N ops.size with a7 | o5
   . exfalso;obtain ⟨i,IB,tw⟩:=C.mE N a7;have:=I.u0 i (gq i IB);omega
   . exact Nat.le_antisymm C.CD o5
  obtain ⟨aw,g1,g2,g3,g4⟩:=full listed a w I (fun k aD _=>gq k aD) (.inl PO);exact b' PO aw a w g1 g2 g3 g4
 intro fuel
 induction fuel with
 | zero=>
   intro listed a w ax I;have gq:∀i,i<ops.size->listed.getD i false=true:=by
    intro i aJ;have aM:(List.range ops.size).countP (fun i=>!listed.getD i false)=0:=by omega
    rw [List.countP_eq_zero] at aM;simpa using aM i (ap_.2 aJ)
   have U:Region.ready .any ops listed=[]:=by
    cases aH:Region.ready .any ops listed with
    | nil=>rfl
    | cons j anR=>
      exfalso;have cW:j ∈ Region.ready .any ops listed:=by rw [aH];simp
      rw [mem_ready] at cW;obtain ⟨ad,o,ag,_⟩:=cW;have:=gq j (aoD.1 ag).1;rw [wQ] at this;rw [ao4,this] at ad;simp at ad
   exact ⟨U,finish listed a w I U⟩
 | succ fuel cc=>
   intro listed a w ax I;by_cases zl:M<ops.size/\∀k,k<ops.size->posOf aK k<N->listed.getD k false=true
   . obtain ⟨wT,gq⟩:=zl;obtain ⟨aw,g1,g2,g3,g4⟩:=full listed a w I gq (.inr ⟨wT,(C.tail wT).1⟩);exact eb wT (fuel+1) listed aw a w ax I.Ct I.down (fun k aD=>⟨I.u0 k,gq k aD⟩) g1 g2 g3 g4
   have adx:∀i,i ∈ Region.ready .any ops listed->posOf aK i<M:=by
    intro i aJ;have tw:=aJ;rw [mem_ready] at tw;obtain ⟨ad,o,ag,w6⟩:=tw;have hP:i<ops.size:=(aoD.1 ag).1;rcases apK M ops.size with wT | wT
    . obtain ⟨Ej,zj⟩:=C.tail wT;rcases apK (posOf aK i) N with a7 | o5
      . omega
      . exfalso;refine zl ⟨wT,fun k aD IE=>?_⟩;obtain ⟨ei,og,_⟩:=C.yW i o ag;have ai:=zj i o ei ag o5 og k aD IE;have y2:rX ops fun k=>listed.getD k false=true\/k=i:=by
         intro k ok e aD br he ai;rcases aD with aD | rfl
         . exact .inl (I.down k ok e aD br he ai)
         . rw [ag] at br;cases br;exact .inl (w6 e (apR.1 he) (by rw [yH];exact ai))
        rcases Cw y2 ops.toList [] (fun j=>by simp) (fun k m j aD=>by simp at aD) i ei k og ai (.inr rfl) with h | h
        . exact h
        . subst h;omega
    . have:=(C.jd i hP).1;omega
   refine ⟨fun U=>finish listed a w I U,fun i aJ=>?_⟩;refine aaq cQ fJ hU C I aJ (adx i aJ) (fun h=>by cases h) (fun bF w' Ux=>cc _ bF w' ?_ Ux) wU;have tw:=aJ;rw [mem_ready] at tw;obtain ⟨ad,o,ag,_⟩:=tw;have hP:i<ops.size:=(aoD.1 ag).1;have hW:i<listed.size:=by rw [I.Ct];exact hP
   have vm:listed.getD i false=false:=by rw [ao4,ao1 hW] at ad ⊢;exact ad
   have:=Ht (fun k=>!listed.getD k false) (fun k=>!(listed.setIfInBounds i true).getD k false) (List.range ops.size)
    (fun k _ aD=>by
      simp only [apH] at aD ⊢;cases aH:listed.getD k false with
      | false=>rfl
      | true=>
        have:=(iz (k:=k) hW).2 (.inr aH);rw [aD] at this;cases this)
    ⟨i,ap_.2 hP,by simp [vm],by have:=(iz (k:=i) hW).2 (.inl rfl);simp [this]⟩
   omega
theorem ah.set_comm (h:ah) {b ck:aN} (d':b≠ck) (k b0:c_):(h.set b k).set ck b0=(h.set ck b0).set b k:=by unfold ah.set;simp only;rw [T.put_comm _ _ _ _ _ _ (fun e=>d' e.symm)]
theorem FZ {o:Oper} {x:Operand} (h:rS o=some x):∃t y,o.op=.store t x y/\o.dst=none/\o.guard=none:=by
 unfold rS at h
 split at h
 case h_2=>cases h
 rename_i t aon y bG
 split at h
 case h_2=>cases h
 rename_i bk
 split at h
 case h_2=>cases h
 rename_i ay;cases h;exact ⟨t,y,bG,bk,ay⟩
theorem agn {h ae:ah} {b:aN} {off:Nat} {aj:List V} (he:lay h b off aj=some ae):∃k,ae=h.set b k/\∀H:ah,H.get b=h.get b->lay H b off aj=some (H.set b k):=by
 unfold lay at he ⊢;cases ay:h.get b<;>rw [ay] at he<;>simp only [c_.on] at he<;>try (cases he;done)
 obtain ⟨ax,ad⟩:=fT he;cases ad;refine ⟨_,rfl,fun H pF=>?_⟩;rw [pF];simp only [c_.on,ax,aoJ]
theorem OV {all:Array Oper} {o:Oper} {x:Operand} {call:gB} {r:c7} {h ae:ah} {v:V} (au:rS o=some x) (he:(et P aL all o).run call r h=.val v ae):
 ∃b off k,(de x).run (gW r (c9 all o))=.ptr b off/\ae=h.set b k/\∀H:ah,H.get b=h.get b->(et P aL all o).run call r H=.val v (H.set b k):=by
 obtain ⟨t,y,bG,bk,ay⟩:=FZ au;obtain ⟨ad,ag⟩:=nD he;have key:et P aL all o=⟨lu none (hN P o) (c9 all o)⟩:=by unfold et;rw [show (hn aL o.dst&&kc (c9 all o))=true from by rw [ad,ag];rfl,ay];rfl
 rw [key] at he ⊢;simp only [lu] at he ⊢;have P0:∀H,(hN P o).run call (gW r (c9 all o)) H=jc .bad ((ur P t).run H ((de x).run (gW r (c9 all o))) ((de y).run (gW r (c9 all o)))):=by intro H;unfold hN;rw [bG]
 rw [P0] at he;cases al:(ur P t).run h ((de x).run (gW r (c9 all o))) ((de y).run (gW r (c9 all o))) with
 | none=>rw [al] at he;cases he
 | some ar=>
   rw [al] at he;simp only [jc,bh.val.injEq] at he;obtain ⟨rfl,rfl⟩:=he;unfold ur at al;cases az:bf P t with
   | none=>rw [az] at al;cases al
   | some aS=>
     rw [az] at al;simp only [qY] at al;obtain ⟨b,off,aF,aT⟩:=zT al;obtain ⟨ax,bE⟩:=fT aT;obtain ⟨k,c8,dJ⟩:=agn bE;refine ⟨b,off,k,aF,c8,fun H pF=>?_⟩;rw [P0];unfold ur;rw [az];simp only [qY,aF,V.lG,ax,aoJ,dJ H pF,jc]
theorem FH {listed:Array Bool} (m':∀i o,ops[i]? =some o->sI i o=true) (dH:listed.size=ops.size) (U:Region.ready .any ops listed=[]):∀i,i<ops.size->listed.getD i false=true:=by
 intro i
 induction i using Nat.strongRecOn with
 | _ i cc=>
   intro aJ;cases hW:listed.getD i false with
   | true=>rfl
   | false=>
     exfalso;have dG:ops[i]? =some ops[i]:=ao1 aJ;have m':=m' i _ dG;have:i ∈ Region.ready .any ops listed:=by
      rw [mem_ready];refine ⟨?_,ops[i],dG,fun e he ai=>?_⟩
      . have al:i<listed.size:=by rw [dH];exact aJ
        rw [ao4,ao1 al] at hW ⊢;exact hW
      . have ad:=ao9.1 m' e (apR.2 he);rw [yH] at ai;rw [ai] at ad;simp only [Bool.not_true,Bool.false_or,ape] at ad;exact cc e.on ad (by omega)
     rw [U] at this;simp at this
theorem CU {listed:Array Bool} {i:Nat} (am8:listed.size=ops.size) (aJ:i ∈ Region.ready .any ops listed):i<ops.size/\¬listed.getD i false=true:=by rw [mem_ready] at aJ;obtain ⟨ad,o,ag,_⟩:=aJ;refine ⟨(aoD.1 ag).1,fun h=>?_⟩;rw [wQ] at h;rw [ao4,h] at ad;simp at ad
theorem K4 {rd:Option Nat} {aA:Fr} (cQ:hh P) (fJ:iq P call) (hU:iC P call) (m':∀i o,ops[i]? =some o->sI i o=true) {i:Nat} {o:Oper} (dG:ops[i]? =some o) (bk:o.dst=none) {r:c7} {h ae:ah} {v:V}
 (he:(et P aL ops o).run call r h=.val v ae) {Q:Exit->Act->World->Prop} {E:Env} {a:Act} {w:World} (k:kC E aL r a) (s:bD aA E h w) (b':∀aw w',E.le aw->bD aA aw ae w'->Q .normal a w')
 {listed:Array Bool} (dH:listed.size=ops.size) (gq:∀j,j<ops.size->(listed.getD j false=true↔j≠i)) (fuel:Nat) (aE:1<=fuel):wpAnyIn (aq rd) 0 P .any ops Q fuel listed a w:=by
 have hP:i<ops.size:=(aoD.1 dG).1;have hW:i<listed.size:=by rw [dH];exact hP
 cases fuel with
 | zero=>omega
 | succ fuel=>
   refine ⟨fun U=>absurd (FH m' dH U i hP) (fun h=>((gq i hP).1 h) rfl),fun j cW=>?_⟩;obtain ⟨vt,tR⟩:=CU dH cW;have acV:j=i:=by
    rcases Nat.decEq j i with d' | he
    . exact absurd ((gq j vt).2 d') tR
    . exact he
   subst acV;refine r_ cQ fJ hU dG he k.size (fun t az=>k.cA t (apd (ao9.1 (nD he).2 t az))) s fun aw x w' an av aB=>?_;rw [bk];refine wpAnyIn_done ?_ (b' aw w' an aB) fuel;cases U:Region.ready .any ops (listed.setIfInBounds j true) with
   | nil=>rfl
   | cons m ms=>
     exfalso;have hm:m ∈ Region.ready .any ops (listed.setIfInBounds j true):=by rw [U];simp
     obtain ⟨m1,m2⟩:=CU (by simp [dH]) hm;refine m2 ((iz hW).2 ?_);by_cases Qf:m=j
     . exact .inl Qf
     . exact .inr ((gq m m1).2 Qf)
theorem alA {rd:Option Nat} {aA:Fr} (cQ:hh P) (fJ:iq P call) (hU:iC P call) (m':∀i o,ops[i]? =some o->sI i o=true) {i j:Nat} {o p:Oper} (dG:ops[i]? =some o) (tx:ops[j]? =some p) (y':i≠j) (bk:o.dst=none) (oi:p.dst=none)
 {r:c7} {h ad km ag:ah} {v ea u fx:V} (he:(et P aL ops o).run call r h=.val v ad) (aF:(et P aL ops p).run call r ad=.val u ag) (m_:(et P aL ops p).run call r h=.val fx km) (gT:(et P aL ops o).run call r km=.val ea ag)
 {Q:Exit->Act->World->Prop} {E:Env} {a:Act} {w:World} (k:kC E aL r a) (s:bD aA E h w) (b':∀aw w',E.le aw->bD aA aw ag w'->Q .normal a w')
 {listed:Array Bool} (dH:listed.size=ops.size) (gq:∀m,m<ops.size->(listed.getD m false=true↔(m≠i/\m≠j))) (fuel:Nat) (aE:2<=fuel):wpAnyIn (aq rd) 0 P .any ops Q fuel listed a w:=by
 have hP:i<ops.size:=(aoD.1 dG).1;have IC:j<ops.size:=(aoD.1 tx).1;have mz:∀{q:Oper} {H ki:ah} {z:V},(et P aL ops q).run call r H=.val z ki->∀t ∈ c9 ops q,Rel E (T.get .bad (ao t) r) (a.tmps.getD t undef):=
  fun he t az=>k.cA t (apd (ao9.1 (nD he).2 t az))
 cases fuel with
 | zero=>omega
 | succ fuel=>
   refine ⟨fun U=>absurd (FH m' dH U i hP) (fun h=>((gq i hP).1 h).1 rfl),fun m hm=>?_⟩;obtain ⟨m1,m2⟩:=CU dH hm;have lz:m=i\/m=j:=by
    rcases Nat.decEq m i with d' | he
    . rcases Nat.decEq m j with adb | fs
      . exact absurd ((gq m m1).2 ⟨d',adb⟩) m2
      . exact .inr fs
    . exact .inl he
   rcases lz with rfl | rfl
   . refine r_ cQ fJ hU dG he k.size (mz he) s fun aw x w' an av aB=>?_;rw [bk];have hW:m<listed.size:=by rw [dH];exact hP
     refine K4 cQ fJ hU m' tx oi aF (k.mono an) aB (fun bY aR cg cY=>b' bY aR (an.trans cg) cY) (by simp [dH]) (fun z bN=>?_) fuel (by omega);rw [iz hW,gq z bN];constructor
     . rintro (rfl | h)
       . exact y'
       . exact h.2
     . intro h;by_cases Cb:z=m
       . exact .inl Cb
       . exact .inr ⟨Cb,h⟩
   . refine r_ cQ fJ hU tx m_ k.size (mz m_) s fun aw x w' an av aB=>?_;rw [oi];have hW:m<listed.size:=by rw [dH];exact IC
     refine K4 cQ fJ hU m' dG bk gT (k.mono an) aB (fun bY aR cg cY=>b' bY aR (an.trans cg) cY) (by simp [dH]) (fun z bN=>?_) fuel (by omega);rw [iz hW,gq z bN];constructor
     . rintro (rfl | h)
       . exact fun e=>y' e.symm
       . exact h.1
     . intro h;by_cases Cb:z=m
       . exact .inl Cb
       . exact .inr ⟨h,Cb⟩
theorem TN {rd:Option Nat} {id:Nat} {a:Act} {w:World} {Q:Exit->Act->World->Prop} (hm:P.follows .mixedOrders=true)
 (h:wpAnyIn (aq rd) 0 P .any ops Q ops.size (Array.replicate ops.size false) a {w with drawn:=w.drawn+1}):(Code.region id ops true).wpIn (aq rd) 0 P Q a w:=by
 refine wpIn_region_draw fun t=>?_;rw [hm];exact wpAnyIn_sound _ _ _ _ _ h
theorem Lc {r bq:c7}:∀{rs:List Nat},(∀t ∈ rs,T.get .bad (ao t) bq=T.get .bad (ao t) r)->gW bq rs=gW r rs
 | [],_=>rfl
 | t::dE,h=>by simp only [gW];rw [h t (by simp),Lc (rs:=dE) fun u hu=>h u (by simp [hu])]
theorem aak {all:Array Oper} {o:Oper} {call:gB} {r bq:c7} (h:∀t ∈ c9 all o,T.get .bad (ao t) bq=T.get .bad (ao t) r) (H:ah):(et P aL all o).run call bq H=(et P aL all o).run call r H:=by
 unfold et;cases ax:(hn aL o.dst&&kc (c9 all o)) with
 | false=>rfl
 | true=>
   simp only [aoJ];cases ay:o.guard with
   | none=>simp only [lu,Lc h]
   | some tS=>
     obtain ⟨j,want⟩:=tS;simp only;cases all[j]? with
     | none=>rfl
     | some g=>
       simp only;cases g.dst with
       | none=>rfl
       | some d=>
         simp only;cases (Nat.blt d aL&&Nat.ble d top) with
         | false=>rfl
         | true=>simp only [aoJ,lu,Lc h]
theorem alz {rd:Option Nat} {aA:Fr} (cQ:hh P) (fJ:iq P call) (hU:iC P call) (m':∀i o,ops[i]? =some o->sI i o=true) {l i j:Nat} {b o p:Oper} (tD:ops[l]? =some b) (dG:ops[i]? =some o) (tx:ops[j]? =some p)
 (hW:l≠i) (Qa:l≠j) (y':i≠j) (bk:o.dst=none) (oi:p.dst=none) {r cJ:c7} {h ad km ag:ah} {z v ea u fx:V}
 (ai:∀H,(et P aL ops b).run call r H=.val z H) (Qq:cJ=(kx b.dst).run r z) (zg:∀t ∈ c9 ops p,T.get .bad (ao t) cJ=T.get .bad (ao t) r)
 (he:(et P aL ops o).run call cJ h=.val v ad) (aF:(et P aL ops p).run call cJ ad=.val u ag) (m_:(et P aL ops p).run call cJ h=.val fx km) (gT:(et P aL ops o).run call cJ km=.val ea ag)
 {Q:Exit->Act->World->Prop} {E:Env} {a:Act} {w:World} (k:kC E aL r a) (s:bD aA E h w) (b':∀aw bF w',E.le aw->kC aw aL cJ bF->bD aA aw ag w'->Q .normal bF w')
 {listed:Array Bool} (dH:listed.size=ops.size) (BD:rX ops fun k=>listed.getD k false=true) (adY:∀ei,(gk [] ops.toList)[i]? =some ei->hD ei l=true) (og:∃ei,(gk [] ops.toList)[i]? =some ei)
 (gq:∀m,m<ops.size->(listed.getD m false=true↔(m≠l/\m≠i/\m≠j))) (fuel:Nat) (aE:3<=fuel):wpAnyIn (aq rd) 0 P .any ops Q fuel listed a w:=by
 have EB:l<ops.size:=(aoD.1 tD).1;have hP:i<ops.size:=(aoD.1 dG).1;have IC:j<ops.size:=(aoD.1 tx).1;have mz:∀{E:Env} {a:Act} {q:Oper} {R:c7} {H ki:ah} {z:V},kC E aL R a->(et P aL ops q).run call R H=.val z ki->∀t ∈ c9 ops q,Rel E (T.get .bad (ao t) R) (a.tmps.getD t undef):=
  fun k he t az=>k.cA t (apd (ao9.1 (nD he).2 t az))
 have RE:∀(L:Array Bool),(rX ops fun k=>L.getD k false=true)->¬L.getD l false=true->i ∈ Region.ready .any ops L->False:=by
  intro L abY vl so;rw [mem_ready] at so;obtain ⟨_,dV,jm,w6⟩:=so;rw [dG] at jm;cases jm;obtain ⟨ei,og⟩:=og;have y2:rX ops fun k=>L.getD k false=true\/k=i:=by
   intro k ok e aD br he ai;rcases aD with aD | rfl
   . exact .inl (abY k ok e aD br he ai)
   . rw [dG] at br;cases br;exact .inl (w6 e (apR.1 he) (by rw [yH];exact ai))
  rcases Cw y2 ops.toList [] (fun j=>by simp) (fun k m j aD=>by simp at aD) i ei l og (adY ei og) (.inr rfl) with h | h
  . exact vl h
  . exact hW h
 have aam:∀m,m ∈ Region.ready .any ops listed->rX ops fun k=>(listed.setIfInBounds m true).getD k false=true:=by
  intro m hm k ok e aD br he ai;have fb:=hm;rw [mem_ready] at fb;obtain ⟨_,an7,Qk,w6⟩:=fb;have ac7:m<listed.size:=by rw [dH];exact (aoD.1 Qk).1
  rw [iz ac7] at aD ⊢;rcases aD with rfl | aD
  . rw [Qk] at br;cases br;exact .inr (w6 e (apR.1 he) (by rw [yH];exact ai))
  . exact .inr (BD k ok e aD br he ai)
 cases fuel with
 | zero=>omega
 | succ fuel=>
   refine ⟨fun U=>absurd (FH m' dH U i hP) (fun h=>((gq i hP).1 h).2.1 rfl),fun m hm=>?_⟩;obtain ⟨m1,m2⟩:=CU dH hm;have lz:m=l\/m=j:=by
    rcases Nat.decEq m l with fX | aO
    . rcases Nat.decEq m j with lE | bs
      . rcases Nat.decEq m i with n3 | cT
        . exact absurd ((gq m m1).2 ⟨fX,n3,lE⟩) m2
        . subst cT;exact (RE listed BD (fun h=>((gq l EB).1 h).1 rfl) hm).elim
      . exact .inr bs
    . exact .inl aO
   rcases lz with rfl | rfl
   . -- p first
     have l3:m<listed.size:=by rw [dH];exact EB
     refine r_ cQ fJ hU tD (ai h) k.size (mz k (ai h)) s fun aw x w' an av aB=>?_;have c8:kC aw aL cJ (a.put b.dst x):=by rw [Qq];exact (k.mono an).put (nD (ai h)).1 av
     refine alA cQ fJ hU m' dG tx y' bk oi he aF m_ gT c8 aB (fun bY aR cg cY=>b' bY _ aR (an.trans cg) (c8.mono cg) cY) (by simp [dH]) (fun y bl=>?_) fuel (by omega);rw [iz l3,gq y bl];constructor
     . rintro (rfl | h)
       . exact ⟨hW,Qa⟩
       . exact h.2
     . intro h;by_cases Ca:y=m
       . exact .inl Ca
       . exact .inr ⟨Ca,h⟩
   . -- q first
     have l3:m<listed.size:=by rw [dH];exact IC
     have ze:(et P aL ops p).run call r h=.val fx km:=by rw [<-aak zg];exact m_
     have abZ:=aam m hm;refine r_ cQ fJ hU tx ze k.size (mz k ze) s fun aw x w' an av aB=>?_;rw [oi];have B8:(listed.setIfInBounds m true).size=ops.size:=by simp [dH]
     cases fuel with
     | zero=>omega
     | succ fuel=>
       refine ⟨fun U=>absurd (FH m' B8 U i hP) (fun h=>?_),fun y bl=>?_⟩
       . rcases (iz l3).1 h with e | h
         . exact y' e
         . exact ((gq i hP).1 h).2.1 rfl
       obtain ⟨e1,fH⟩:=CU B8 bl;have ad3:y=l:=by
        rcases Nat.decEq y l with fX | aO
        . rcases Nat.decEq y i with n3 | cT
          . exfalso;refine fH ((iz l3).2 ?_);by_cases Ca:y=m
            . exact .inl Ca
            . exact .inr ((gq y e1).2 ⟨fX,n3,Ca⟩)
          . subst cT;refine (RE _ abZ (fun h=>?_) bl).elim;rcases (iz l3).1 h with e | h
            . exact Qa e
            . exact ((gq l EB).1 h).1 rfl
        . exact aO
       subst ad3;have b0:=k.mono an;refine r_ cQ fJ hU tD (ai km) b0.size (mz b0 (ai km)) aB fun bY fo aR t1 t2 t3=>?_;have c8:kC bY aL cJ (a.put b.dst fo):=by rw [Qq];exact (b0.mono t1).put (nD (ai h)).1 t2
       have IM:y < (listed.setIfInBounds m true).size:=by rw [B8];exact EB
       refine K4 cQ fJ hU m' dG bk gT c8 t3 (fun fR eH cg cY=>b' fR _ eH (an.trans (t1.trans cg)) (c8.mono cg) cY) (by simp [dH]) (fun g ay=>?_) fuel (by omega);rw [iz IM,iz l3,gq g ay];constructor
       . rintro (rfl | rfl | h)
         . exact hW
         . exact fun e=>y' e.symm
         . exact h.2.1
       . intro h;by_cases aO:g=y
         . exact .inl aO
         . by_cases bs:g=m
           . exact .inr (.inl bs)
           . exact .inr (.inr ⟨aO,h,bs⟩)
theorem aap {rd:Option Nat} {aA:Fr} {E:Env} {h:ah} {w:World} {id:Nat} (fC:P.follows .mixedOrders=true) (cQ:hh P) (fJ:iq P call) (hU:iC P call) {r:c7} {a:Act}
 {Q:Exit->Act->World->Prop} (k:kC E aL r a) (s:bD aA E h w) {es:List ir} {dO:c7} {bP:ah} {order aK hd:List Nat} {N M:Nat} (C:Cert P aL ops (fun _=>call) es r h dO bP hd order aK N M false)
 (b':N=ops.size->∀aw bF w',E.le aw->kC aw aL dO bF->bD aA aw bP w'->Q .normal bF w')
 (wU:∀aw bF w' x v ae,E.le aw->N<ops.size->ops.size<=M->(∃i0 l8,ops[i0]? =some l8/\posOf aK i0=N/\(et P aL ops l8).run call dO bP=.fY v ae)->kC aw aL (oW r ops.toList) bF->Rel aw v x->bD aA aw ae w'->Q (.panic (nS x)) bF w')
 (eb:M<ops.size->∀(fuel:Nat) (listed:Array Bool) aw bF w',(List.range ops.size).countP (fun i=>!listed.getD i false)<=fuel->listed.size=ops.size->rX ops (fun k=>listed.getD k false=true)->(∀k,k<ops.size->(listed.getD k false=true↔posOf aK k<N))->
   E.le aw->kC aw aL dO bF->bD aA aw bP w'->wpAnyIn (aq rd) 0 P .any ops Q fuel listed bF w'):
 (Code.region id ops true).wpIn (aq rd) 0 P Q a w:=by
 have e9:∀k,¬(Array.replicate ops.size false).getD k false=true:=by
  intro k;rw [wQ,Array.getElem?_replicate]
  split<;>simp
 have mW:Holds aA aA es bP aK (mh ops es bP aK (Array.replicate ops.size false) 0):=
  ⟨rfl,fun _ _=>rfl,fun k aD=>(by obtain ⟨_,_,_,_,aM⟩:=aD;omega),fun k b0 aD=>(by obtain ⟨_,_,_,_,aM⟩:=aD;omega)⟩
 obtain ⟨jS,eX,g1,g2,g3,g4,g5,g6⟩:=C.advance N 0 (by omega) (fun k o _ _ _=>e9 k) aA mW (E:=E) (w:={w with drawn:=w.drawn}) (by rw [C.aM];exact s.same rfl rfl rfl rfl);have rm:∀(aw:Env) (bF:Act),E.le aw->bF.defers=a.defers->∀(bq:c7),T.get .bad mj bq=T.get .bad mj r->pv aw (T.get .bad mj bq) bF.defers:=fun aw bF he bk bq qt=>by rw [qt,bk];exact k.defers.mono he
 have P1:T.get .bad mj dO=T.get .bad mj r:=by have:=C.OY N (aoz _);have ade:es[N]? =none:=ao3 (by rw [C.len];exact aoz _);simpa [fF,ade] using this
 refine TN fC (OW cQ (fun _=>fJ) (fun _=>hU) C (jX:=E) (D:=a.defers)
  (fun aI aw bF w' an av aB bt=>b' aI aw bF w' an ⟨av,rm aw bF an aB dO P1⟩ bt)
  (fun aw bF w' x v ae an av St aB bt ca cx dq=>wU aw bF w' x v ae an av St aB ⟨bt,rm aw bF an ca _ D4⟩ cx dq)
  (fun g0 fuel listed aw bF w' g1 g2 g3 g4 an av aB bt=>eb g0 fuel listed aw bF w' g1 g2 g3 g4 an ⟨av,rm aw bF an aB dO P1⟩ bt) ops.size _ a _ ?_ ?_)
 . exact aoF List.countP_le_length (by simp)
 . refine ⟨by simp,k.size,rfl,fun b0 aD=>absurd aD (e9 b0),fun b0 o e aD=>absurd aD (e9 b0),E,jS,eX,Env.le.refl E,g1,g3,fun b0 o ad ag=>⟨fun h=>absurd h (e9 b0),fun h=>by have:=g4 b0 o ad ag (aoQ _);omega⟩,
    fun b0 o _ _ h=>absurd h (e9 b0),g5,?_,fun t az=>.inr ⟨fun b0 o aD=>absurd aD (e9 b0),k.cA t az⟩⟩
   exact g6.same rfl rfl rfl rfl
theorem Ko {n:Nat} {order aK:List Nat} (ss:vI n order aK=true):order.length=n/\(∀k,k<n->posOf aK k<n/\order[posOf aK k]? =some k)/\∀p,p<n->∃i,i<n/\posOf aK i=p:=by
 unfold vI at ss;simp only [aoE,ao8] at ss;obtain ⟨sr,vn,adj,adk⟩:=ss;refine ⟨sr,fun k aD=>?_,fun p aF=>?_⟩
 . have ay:aK[k]? =some (posOf aK k):=by
    unfold posOf;rw [aoB (by omega)];rfl
   have:=Kn adj ay;rw [aph] at this;exact ⟨by have:=(apk.1 this).1;omega,this⟩
 . have ay:order[p]? =some (order[p]'(by omega)):=aoB (by omega);have:=Kn adk ay;rw [aph] at this;refine ⟨order[p]'(by omega),by have:=(apk.1 this).1;omega,?_⟩;unfold posOf;rw [this];rfl
theorem Tj {order aK:List Nat} (aE:Al P ops order aK=true):3<=ops.size/\∀i o,ops[i]? =some o->∃ei,(gk [] ops.toList)[i]? =some ei/\sI i o=true/\
 (posOf aK i<ops.size-3->∀k ok,ops[k]? =some ok->posOf aK k<ops.size-3->∃mk,(gk [] ops.toList)[k]? =some mk/\ue i ei (c9 ops o) o.dst k mk ok (Nat.blt (posOf aK k) (posOf aK i))=true/\(ib P o.op=true->gj P ok=true->posOf aK k<posOf aK i->hD ei k=true))/\
 (¬posOf aK i<ops.size-3->F2 P ops order aK (ops.size-3) i ei o=true):=by
 unfold Al at aE;simp only [aoE,aoT] at aE;refine ⟨aE.1,fun i o aJ=>?_⟩;obtain ⟨ei,ad,ag⟩:=uL aE.2 i o (by simpa using aJ);simp only [aph,aoE] at ag;refine ⟨ei,ad,ag.1,fun a7 k ok aD mX=>?_,fun o5=>?_⟩
 . have ar:=ag.2;rw [show Nat.blt (posOf aK i) (ops.size-3)=true from by rw [ape];exact a7] at ar;simp only [aoJ] at ar;obtain ⟨mk,c8,dJ⟩:=uL ar k ok (by simpa using aD);simp only [aph] at dJ;rw [show Nat.blt (posOf aK k) (ops.size-3)=true from by rw [ape];exact mX] at dJ;simp only [aoJ,aoE] at dJ;refine ⟨mk,c8,dJ.1,fun aO bs a7=>?_⟩;have gU:=dJ.2;rw [aO,bs,ap1,show Nat.blt (posOf aK k) (posOf aK i)=true from by rw [ape];exact a7] at gU;exact gU
 . have ar:=ag.2;rw [show Nat.blt (posOf aK i) (ops.size-3)=false from by rw [<-Bool.not_eq_true,ape];exact o5] at ar;exact ar
theorem Tk {order aK:List Nat} {N i ei p:Nat} {o Fw:Oper} (aF:order[N]? =some p) (xf:ops[p]? =some Fw) (h:F2 P ops order aK N i ei o=true):
 (∀k,k<ops.size->posOf aK k<N->hD ei k=true)/\(posOf aK i=N->ib P o.op=false/\looks o.op=false)/\(posOf aK i≠N->∃x,rS o=some x)/\
 (posOf aK i=N+1->hD ei p=true)/\(posOf aK i=N+2->∀t ∈ c9 ops o,Fw.dst≠some t):=by
 unfold F2 at h;rw [aF] at h;simp only [aoE] at h;obtain ⟨⟨ad,ag⟩,ar,aT⟩:=h;refine ⟨fun k aD IE=>?_,fun e=>?_,fun e=>?_,fun e=>?_,fun e t az=>?_⟩
 . obtain ⟨mk,c8,dJ⟩:=uL ad k ops[k] (by simp);simp only [aph] at dJ;rw [show Nat.blt (posOf aK k) N=true from by rw [ape];exact IE] at dJ;exact dJ
 . rw [oR,aoN e] at ag;simpa using ag
 . rw [oR,aoI e] at ag;exact Option.isSome_iff_exists.1 ag
 . rw [oR,aoN e] at ar;exact ar
 . rw [oR,aoN e,xf] at aT;simp only at aT;intro bk;rw [bk] at aT;simp only [apH] at aT;rw [show (c9 ops o).contains t=true from by simpa using az] at aT;cases aT
theorem Io {es:List ir} {bP:ah} {N p:Nat} (aF:p<=N):dM (es.take N) (dM es bP N) p=dM es bP p:=by
 by_cases h:p<N
 . cases he:es[p]? with
   | some e=>simp [dM,h,he]
   | none=>
     have aI:es[N]? =none:=ao3 (by have:=List.getElem?_eq_none_iff.1 he;omega);simp [dM,h,he,aI]
 . have:p=N:=by omega
   subst this;simp [dM,List.getElem?_take]
theorem SF {es:List ir} {dO:c7} {N p:Nat} (aF:p<=N):fF (es.take N) (fF es dO N) p=fF es dO p:=by
 by_cases h:p<N
 . cases he:es[p]? with
   | some e=>simp [fF,h,he]
   | none=>
     have aI:es[N]? =none:=ao3 (by have:=List.getElem?_eq_none_iff.1 he;omega);simp [fF,h,he,aI]
 . have:p=N:=by omega
   subst this;simp [fF,List.getElem?_take]
theorem VL {order:List Nat} {es:List ir} {N i j:Nat} {o p:Oper} {e f:ir} {x y:Operand} (b5:AT ops order es N=true) (aJ:order[N]? =some i) (cW:order[N+1]? =some j) (dG:ops[i]? =some o) (tx:ops[j]? =some p)
 (he:es[N]? =some e) (aE:es[N+1]? =some f) (au:rS o=some x) (bl:rS p=some y) {b c:aN} {off pd:Nat} (ai:(de x).run (gW e.r (c9 ops o))=.ptr b off) (ax:(de y).run (gW f.r (c9 ops p))=.ptr c pd):b≠c:=by
 unfold AT Ak at b5;simp only [aJ,cW,dG,tx,he,aE,au,bl,ai,ax] at b5;intro h;subst h;rw [aN.D2] at b5;cases b5
theorem aly {rd:Option Nat} {aA:Fr} {E:Env} {h:ah} {w:World} {id:Nat} (fC:P.follows .mixedOrders=true) (cQ:hh P) (fJ:iq P call) (hU:iC P call) {r:c7} {a:Act} {order aK:List Nat} (ss:vI ops.size order aK=true) (ia:Al P ops order aK=true)
 {Q:Exit->Act->World->Prop} {es:List ir} {dO:c7} {bP:ah} (hlen:es.length=ops.size) (av:dM es bP 0=h) (aB:fF es dO 0=r)
 (bt:∀j o,(jQ ops order)[j]? =some o->∃e,es[j]? =some e/\(et P aL ops o).run call e.r e.h=.val e.v (dM es bP (j+1))/\fF es dO (j+1)=(kx o.dst).run e.r e.v)
 (En:AT ops order es (ops.size-3+1)=true)
 (ob:∀j o,ops[j]? =some o->looks o.op=true->ib P o.op=false->∀e,(es.take (ops.size-3))[posOf aK j]? =some e->∀s ∈ jC P aK 0 ops.toList,
   vB P (gk [] ops.toList) ops.toList aK j (((gk [] ops.toList)[j]?).getD 0) s=true->∃ae,(et P aL ops o).run call e.r (dM (es.take (ops.size-3)) (dM es bP (ops.size-3)) s)=.val e.v ae)
 (aF:∀aw bF w',E.le aw->kC aw aL dO bF->bD aA aw bP w'->Q .normal bF w') (k:kC E aL r a) (s:bD aA E h w):(Code.region id ops true).wpIn (aq rd) 0 P Q a w:=by
 obtain ⟨sr,jd,mE⟩:=Ko ss;obtain ⟨ag,ia⟩:=Tj ia;obtain ⟨N,ab6⟩:∃N,N=ops.size-3:=⟨_,rfl⟩;rw [<-ab6] at ia En ob;have inj:∀i j,i<ops.size->j<ops.size->posOf aK i=posOf aK j->i=j:=by intro i j aJ cW he;have a:=(jd i aJ).2;have b:=(jd j cW).2;rw [he,b] at a;cases a;rfl
 obtain ⟨nd,vd,y5⟩:=mE N (by omega);obtain ⟨qw,y0,y1⟩:=mE (N+1) (by omega);obtain ⟨sw,BA,BB⟩:=mE (N+2) (by omega);have BM:ops[nd]? =some ops[nd]:=ao1 vd;have Ey:ops[qw]? =some ops[qw]:=ao1 y0;have Ez:ops[sw]? =some ops[sw]:=ao1 BA;have IX:=(jd nd vd).2;have IV:=(jd qw y0).2;have IW:=(jd sw BA).2;rw [y5] at IX;rw [y1] at IV;rw [BB] at IW;have zj:∀i o,ops[i]? =some o->¬posOf aK i<N->∃ei,(gk [] ops.toList)[i]? =some ei/\(∀k,k<ops.size->posOf aK k<N->hD ei k=true)/\(posOf aK i=N->ib P o.op=false/\looks o.op=false)/\(posOf aK i≠N->∃x,rS o=some x)/\
  (posOf aK i=N+1->hD ei nd=true)/\(posOf aK i=N+2->∀t ∈ c9 ops o,ops[nd].dst≠some t):=by
  intro i o aJ o5;obtain ⟨ei,c0,_,_,z4⟩:=ia i o aJ;exact ⟨ei,c0,Tk IX BM (z4 o5)⟩
 obtain ⟨anY,_,_,alw,_⟩:=zj nd _ BM (by omega);obtain ⟨E7,Qd,_,_,alu,aa,_⟩:=zj qw _ Ey (by omega);obtain ⟨anX,anI,_,_,alv,_,KA⟩:=zj sw _ Ez (by omega);obtain ⟨O2,agS⟩:=alw y5;obtain ⟨aor,Jg⟩:=alu (by omega);obtain ⟨aos,Jh⟩:=alv (by omega);have aa:=aa y1;have KA:=KA BB;obtain ⟨HC,iN,xu,Cj⟩:=bt _ _ (qN IX BM);obtain ⟨wH,cN,a2,a3⟩:=bt _ _ (qN IV Ey);obtain ⟨O0,bT,c2,h9⟩:=bt _ _ (qN IW Ez);obtain ⟨aob,aow,ahI,OF,ank⟩:=FZ Jg;obtain ⟨aoc,aox,an3,OG,anl⟩:=FZ Jh;have e9:es[N+2+1]? =none:=ao3 (by omega);have acY:dM es bP (N+2+1)=bP:=by simp [dM,e9]
 have akt:fF es dO (N+2+1)=dO:=by simp [fF,e9]
 have ab5:dM es bP N=HC.h:=by simp [dM,iN]
 have aj9:fF es dO N=HC.r:=by simp [fF,iN]
 have ab3:dM es bP (N+1)=wH.h:=by simp [dM,cN]
 have aj7:fF es dO (N+1)=wH.r:=by simp [fF,cN]
 have ab4:dM es bP (N+1+1)=O0.h:=by simp [dM,bT]
 have aj8:fF es dO (N+1+1)=O0.r:=by simp [fF,bT]
 rw [aj7] at Cj;rw [ab3] at xu;rw [OF,aj8] at a3;rw [OG,akt] at h9;simp only [kx] at a3 h9;rw [ab4] at a2;rw [acY] at c2;obtain ⟨ab1,H8⟩:=Bi O2 xu;have H8:=H8 agS;obtain ⟨Mj,an4,aer,aiT,SX,al8⟩:=OV Jg a2;obtain ⟨GZ,an5,QT,aiU,akF,al9⟩:=OV Jh c2;have d':Mj≠GZ:=VL En IV IW Ey Ez cN bT Jg Jh aiT aiU;have H6:=al9 wH.h (by rw [SX,ah.ey,aoI d']);have H5:=al8 (wH.h.set GZ QT) (by rw [ah.ey,aoI (fun e=>d' e.symm)]);have acr:(wH.h.set GZ QT).set Mj aer=bP:=by rw [ah.set_comm _ (fun e=>d' e.symm),<-SX,<-akF]
 rw [acr] at H5;rw [a3] at H6 c2;have om:dO=wH.r:=h9.trans a3;have ac':∀m,m<ops.size->(posOf aK m<N↔(m≠nd/\m≠qw/\m≠sw)):=by
  intro m hm;have anM:=(jd m hm).1;constructor
  . intro h;exact ⟨fun e=>by subst e;omega,fun e=>by subst e;omega,fun e=>by subst e;omega⟩
  . rintro ⟨jM,fX,lE⟩;have qk:posOf aK m≠N:=fun e=>jM (inj m nd hm vd (by rw [e,y5]));have cf:posOf aK m≠N+1:=fun e=>fX (inj m qw hm y0 (by rw [e,y1]));have c6:posOf aK m≠N+2:=fun e=>lE (inj m sw hm BA (by rw [e,BB]));omega
 have acp:gj P ops[qw]=true:=by unfold gj jo;rw [ahI];rfl
 have zg:∀t ∈ c9 ops ops[sw],T.get .bad (ao t) wH.r=T.get .bad (ao t) HC.r:=by intro t az;have zm:t<=top:=apd (ao9.1 (nD c2).2 t az);rw [Cj,PD (nD xu).1 zm,aoI (KA t az)]
 have j8:∀i o,ops[i]? =some o->posOf aK i<N->∃e,(es.take N)[posOf aK i]? =some e/\(et P aL ops o).run call e.r e.h=.val e.v (dM (es.take N) (dM es bP N) (posOf aK i+1))/\fF (es.take N) (fF es dO N) (posOf aK i+1)=(kx o.dst).run e.r e.v:=by
  intro i o bG aJ;obtain ⟨e,c0,z2,z3⟩:=bt _ o (qN (jd i (aoD.1 bG).1).2 bG);refine ⟨e,by simp [aJ,c0],?_,?_⟩
  . rw [Io (by omega)];exact z2
  . rw [SF (by omega)];exact z3
 have C:Cert P aL ops (fun _=>call) (es.take N) r h (fF es dO N) (dM es bP N) (N::jC P aK 0 ops.toList) order aK N N false:=
  ⟨by simp [hlen];omega,by omega,aoz _,jd,mE,by rw [Io (aoQ _)];exact av,by rw [SF (aoQ _)];exact aB,j8,
    fun i o bG=>by
     obtain ⟨ei,c0,z2,z3,_⟩:=ia i o bG
     exact ⟨ei,c0,z2,fun aJ k ok aD ID=>by
      obtain ⟨mk,e1,fH,y3⟩:=z3 aJ k ok aD ID
      exact ⟨mk,e1,fH,fun a b c=>.inl (y3 a b c)⟩⟩,
    by simp,
    fun j o ad ag=>apr _ (by simpa using E1 (aK:=aK) (i:=0) (j:=j) (l:=ops.toList) (by simpa using ad) ag),
    fun s al=>by
     rcases ao7.1 al with rfl | al
     . exact .inl (.inr ⟨rfl,rfl⟩)
     . rcases E2 al with h | ⟨j,o,ad,ag,ar⟩
       . exact .inl (.inl (by simpa using h))
       . exact .inr ⟨j,o,by simpa using ad,ag,by simpa using ar⟩,
    fun j o ad ag ar aT=>by
     obtain ⟨e,g1,_⟩:=j8 j o ad aT;have Qz:=ob j o ad ag ar e g1;refine ⟨e,g1,fun s al hm=>?_⟩;rcases ao7.1 al with rfl | al
     . have EC:vB P (gk [] ops.toList) ops.toList aK j (((gk [] ops.toList)[j]?).getD 0) (s+1)=true:=by
        unfold vB at hm ⊢;refine Lu (by rw [JI];simp) fun dL mk ok e1 fH=>?_;obtain ⟨mk',dr,fo⟩:=uL hm dL ok fH;rw [e1] at dr;cases dr;simp only [aph] at fo ⊢;have br:ops[dL]? =some ok:=by simpa using fH
        have mX:=(aoD.1 br).1;by_cases BP:posOf aK dL=s
        . have:dL=nd:=inj dL nd mX vd (by rw [BP,y5]);subst this;rw [BM] at br;cases br;have ED:gj P ops[dL]=false:=by unfold gj;rw [O2];rfl
          rw [ED];rfl
        . have:Nat.blt (posOf aK dL) (s+1)=Nat.blt (posOf aK dL) s:=by
           rw [aps,ape,ape];omega
          rw [this];exact fo
       have so:s+1 ∈ jC P aK 0 ops.toList:=by rw [<-y1];simpa using E1 (P:=P) (aK:=aK) (i:=0) (j:=qw) (l:=ops.toList) (by simp) acp
       obtain ⟨ae,g3⟩:=Qz (s+1) so EC;refine ⟨call,ae,⟨fJ,hU⟩,?_⟩;have aO:dM (es.take s) (dM es bP s) (s+1)=dM es bP s:=by have:(es.take s)[s+1]? =none:=ao3 (by simp;omega);simp only [dM,this]
       have bs:dM (es.take s) (dM es bP s) s=dM es bP s:=Io (aoz _);rw [aO] at g3;rw [bs];exact g3
     . obtain ⟨ae,g3⟩:=Qz s al hm;exact ⟨call,ae,⟨fJ,hU⟩,g3⟩,
    fun _=>⟨rfl,fun dL ok mk aD o5 IQ j cW acU=>by obtain ⟨ei,c0,z2,_⟩:=zj dL ok aD (by omega);rw [IQ] at c0;cases c0;exact z2 j cW acU⟩,
    fun ad ag=>by omega⟩
 refine aap fC cQ fJ hU k s C (fun h=>by omega) (fun _ _ _ _ _ _ _ _ h=>by omega) (fun _ fuel listed aw bF w' g1 g2 g3 g4 g5 g6 g7=>?_);rw [aj9] at g6;rw [ab5] at g7;rw [ab1] at a2 H6 H5;refine alz cQ fJ hU (fun i o bG=>by obtain ⟨ei,_,z2,_⟩:=ia i o bG;exact z2) BM Ey Ez (fun e=>by rw [e] at y5;omega) (fun e=>by rw [e] at y5;omega) (fun e=>by rw [e] at y1;omega) OF OG
  H8 Cj zg a2 c2 H6 H5 g6 g7 (fun bY a2 aR cg cY eS=>aF bY a2 aR (g5.trans cg) (by rw [om];exact cY) eS) g2 g3 (fun ei og=>by rw [Qd] at og;cases og;exact aa) ⟨E7,Qd⟩ (fun m hm=>(g4 m hm).trans (ac' m hm)) fuel ?_
 have Hs:∀(L:Array Bool) (x:Nat),L.size=ops.size->x<ops.size->¬L.getD x false=true->(List.range ops.size).countP (fun k=>!(L.setIfInBounds x true).getD k false) < (List.range ops.size).countP (fun k=>!L.getD k false):=by
  intro L x gL au aI;have zr:x<L.size:=by rw [gL];exact au
  refine Ht (fun k=>!L.getD k false) (fun k=>!(L.setIfInBounds x true).getD k false) (List.range ops.size) (fun k _ aD=>?_) ⟨x,ap_.2 au,?_,?_⟩
  . simp only [apH] at aD ⊢;cases aH:L.getD k false with
    | false=>rfl
    | true=>
      have:=(iz (k:=k) zr).2 (.inr aH);rw [aD] at this;cases this
  . cases aH:L.getD x false with
    | false=>rfl
    | true=>exact absurd aH aI
  . have:=(iz (k:=x) zr).2 (.inl rfl);simp [this]
 have ahe:¬listed.getD nd false=true:=fun h=>by have:=(g4 nd vd).1 h;omega
 have ahd:¬listed.getD qw false=true:=fun h=>by have:=(g4 qw y0).1 h;omega
 have ja:¬listed.getD sw false=true:=fun h=>by have:=(g4 sw BA).1 h;omega
 have cf:=Hs listed nd g2 vd ahe
 have c6:=Hs (listed.setIfInBounds nd true) qw (by simp [g2]) y0 (fun h=>by
  rcases (iz (by rw [g2];exact vd)).1 h with e | h
  . rw [e] at y1;omega
  . exact ahd h)
 have c3:=Hs ((listed.setIfInBounds nd true).setIfInBounds qw true) sw (by simp [g2]) BA (fun h=>by
  rcases (iz (by simp [g2];exact y0)).1 h with e | h
  . rw [e] at BB;omega
  . rcases (iz (by rw [g2];exact vd)).1 h with e | h
    . rw [e] at BB;omega
    . exact ja h)
 omega
end
section
variable {P:Program} {aL:Nat} {ops:Array Oper} {call:gB}
inductive Gg {α β:Type} (R:α->β->Prop):List α->List β->Prop
 | nil:Gg R [] []
 | cons {a:α} {b:β} {Rm:List α} {Rn:List β} (h:R a b) (t:Gg R Rm Rn):Gg R (a::Rm) (b::Rn)
end
end
end Go.Proofs.YtahfljfikfkpnaaGreatDoor.ba
