/- The abstract machine and its walks (a verified interpreter of the model's code: plain definitions and lemmas, no condition). Printed by a program from longer texts: names made short. -/
import Derived.Test.YtahfljfikfkpnaaGreatDoorM1
import Derived.RangeFuncLeaves
import Derived.RecoverIn
import Derived.OrdersIn
set_option linter.unusedSectionVars false
set_option linter.unusedSimpArgs false
set_option linter.unusedVariables false
set_option maxHeartbeats 64000000
noncomputable section
namespace Go.Proofs.YtahfljfikfkpnaaGreatDoor.bg
section
open Go Go.RowKit
variable [Lay]
section
variable {P:Program}
theorem Jx {E:Env} {bw:TypeDesc} {k bZ:V} {K lU:Value} {b:Bool} (he:(nL bw).run k bZ=some b) (au:Rel E k K) (bm:Rel E bZ lU):
 Instr.sameNow bw K lU=some b/\(b=true->lU=K/\∀n,Instr.sameBits n K K=true):=by
 cases bw<;>simp only [nL] at he<;>try (simp [fA.none] at he;done)
 case bool=>
  simp only [ss] at he;cases k<;>simp only at he<;>try (cases he;done)
  cases bZ<;>simp only at he<;>try (cases he;done)
  simp only [Rel] at au bm;subst au bm;simp only [ao4] at he;subst he;refine ⟨rfl,fun h=>?_⟩;rw [aqt] at h;subst h;exact ⟨rfl,fun n=>by cases n<;>simp [Instr.sameBits]⟩
 case int gv=>
  simp only [o1] at he;obtain ⟨j,m,rfl,ae⟩:=lJ he;clear he;obtain ⟨Q1,dv,rfl,ag⟩:=lJ ae;clear ae;obtain ⟨aD,h⟩:=fV ag;clear ag;have:=yY aD;subst this;simp only [Rel] at au bm;subst au bm;simp only [ao4,rn] at h;subst h;refine ⟨by simp [Instr.sameNow],fun h=>?_⟩;rw [aqt] at h;subst h;exact ⟨rfl,fun n=>by cases n<;>simp [Instr.sameBits]⟩
 case string=>
  simp only [wR] at he;cases k<;>simp only at he<;>try (cases he;done)
  cases bZ<;>simp only at he<;>try (cases he;done)
  simp only [Rel] at au bm;subst au bm;simp only [ao4,yK] at he;subst he;refine ⟨by simp only [Instr.sameNow,bytes_beq],fun h=>?_⟩;rw [aqt] at h;subst h;exact ⟨rfl,fun n=>by cases n<;>simp [Instr.sameBits,bytes_beq]⟩
theorem run_checkKey {bw:TypeDesc} (aE:nm bw=true) {t:TypeId} {w:World} (hu:(underlying t).run P w=.ok bw w) (b:Bool) (v:Value):(Instr.checkKey b 10000 t v).run P w=.ok () w:=by
 show (Instr.checkKey b (9999+1) t v).run P w=.ok () w;unfold Instr.checkKey;rw [Sem.run_bind,hu];cases bw<;>simp only [nm] at aE<;>first
  | (cases aE;done)
  | rfl
theorem run_findKey {bw:TypeDesc} {t:TypeId} {w:World} (hu:(underlying t).run P w=.ok bw w) {K:Value} {l:List MapEntry} {R:Option (Nat × Value)} (h:Instr.findNow bw K l 0=some R):
 (Instr.findKey t K l).run P w=.ok R w:=by
 simp only [Instr.findKey,Sem.run_bind,hu,Result.andThen_ok,h,Sem.run_pure]
theorem PE {E:Env} {bw:TypeDesc} {k:V} {K:Value} (aD:Rel E k K):∀(es:List fv) (l:List MapEntry) (r:Option V) (i:Nat),qy (nL bw) k es=some r->gk E es l->
 ∃R,Instr.findNow bw K l i=some R/\(match r with
  | none=>R=none
  | some v=>∃j Y,R=some (j,Y)/\Rel E v Y)
 | [],l,r,i,h,U=>by simp only [gk] at U;subst U;simp only [qy,ao4] at h;subst h;exact ⟨none,rfl,rfl⟩
 | m::ms,l,r,i,h,U=>by
   obtain ⟨e,es,rfl,ae,ag,ar,aT⟩:=U;simp only [qy] at h;cases al:(nL bw).run k m.k with
   | none=>rw [al] at h;cases h
   | some b=>
     rw [al] at h;simp only at h;obtain ⟨ao,av⟩:=Jx al aD ae;cases b with
     | true=>
       simp only [apc,ao4] at h;subst h;exact ⟨some (i,e.val),by simp only [Instr.findNow,ao],i,e.val,rfl,ag⟩
     | false=>
       simp only [apg] at h;obtain ⟨R,g1,g2⟩:=PE aD ms es r (i+1) h aT;exact ⟨R,by simp only [Instr.findNow,ao,g1],g2⟩
theorem SD {E:Env} {bw:TypeDesc} {k v:V} {K X:Value} (aD:Rel E k K) (b0:Rel E v X) (clock:Nat):∀(es:List fv) (l:List MapEntry) (r:List fv × Bool) (i:Nat),pw (nL bw) k v clock es=some r->gk E es l->
 (r.2=true->Instr.findNow bw K l i=some none/\gk E r.1 (l++[⟨K,X,clock⟩]))/\
 (r.2=false->∃j e Y,Instr.findNow bw K l i=some (some (i+j,Y))/\l[j]? =some e/\Instr.sameBits 10000 e.key K=true/\gk E r.1 (l.modify j fun e=>{e with key:=K,val:=X}))
 | [],l,r,i,h,U=>by simp only [gk] at U;subst U;simp only [pw,ao4] at h;subst h;exact ⟨fun _=>⟨rfl,_,_,rfl,aD,b0,rfl,rfl⟩,fun h=>by cases h⟩
 | m::ms,l,r,i,h,U=>by
   obtain ⟨e,es,rfl,ae,ag,ar,aT⟩:=U;simp only [pw] at h;cases al:(nL bw).run k m.k with
   | none=>rw [al] at h;cases h
   | some b=>
     rw [al] at h;simp only at h;obtain ⟨ao,av⟩:=Jx al aD ae;cases b with
     | true=>
       simp only [apc,ao4] at h;subst h;obtain ⟨aC,bs⟩:=av rfl;refine ⟨fun h=>(by cases h),fun _=>⟨0,e,e.val,by simp only [Instr.findNow,ao,ap_],rfl,by rw [aC];exact bs _,?_⟩⟩;exact ⟨_,es,rfl,aD,b0,ar,aT⟩
     | false=>
       simp only [apg] at h;cases aG:pw (nL bw) k v clock ms with
       | none=>rw [aG] at h;cases h
       | some bq=>
         rw [aG] at h;simp only [ao4] at h;subst h;obtain ⟨g1,g2⟩:=SD aD b0 clock ms es bq (i+1) aG aT;refine ⟨fun h=>?_,fun h=>?_⟩
         . obtain ⟨cM,a2⟩:=g1 h;exact ⟨by simp only [Instr.findNow,ao,cM],⟨e,es++[⟨K,X,clock⟩],rfl,ae,ag,ar,a2⟩⟩
         . obtain ⟨j,fk,Y,cM,a2,a3,a4⟩:=g2 h;exact ⟨j+1,fk,Y,by simp only [Instr.findNow,ao,cM];congr 3;omega,by simpa using a2,a3,e,_,rfl,ae,ag,ar,a4⟩
theorem JL {aB:Fr} {E:Env} {h:ah} {w:World} (s:bE aB E h w) {x:V} {X:Value} {es:List fv} (he:vE h x=some es) (au:Rel E x X):
 (X=.map none/\es=[])\/∃r a clock,X=.map (some r)/\(getObj r).run P w=.ok (.map a clock) w/\gk E es a.toList:=by
 cases x<;>simp only [vE] at he<;>try (cases he;done)
 . simp only [Rel] at au;exact .inl ⟨au,by simpa using he.symm⟩
 . rename_i b;simp only [Rel] at au;obtain ⟨p,aG,rfl⟩:=au;have ai:=s.at aG;cases ay:h.get b<;>rw [ay] at he<;>simp only [c'.nP] at he<;>try (cases he;done)
   simp only [ao4] at he;subst he;rw [ay] at ai;obtain ⟨q,a,ae,_,ar,aT⟩:=ai;rw [aG] at ae;cases ae;exact .inr ⟨p.bn,a,_,rfl,by simp only [getObj,Sem.run,ar];rfl,aT⟩
theorem PB {bw:TypeDesc} {K:Value}:∀{l:List MapEntry} {i:Nat},(∀e ∈ l,Instr.sameNow bw K e.key=some false)->Instr.findNow bw K l i=some none
 | [],_,_=>rfl
 | e::es,i,h=>by simp only [Instr.findNow,h e (by simp)];exact PB fun fk gW=>h fk (by simp [gW])
theorem PC {bw:TypeDesc} {K:Value}:∀{l:List MapEntry} {i:Nat},(∀e ∈ l,∃b,Instr.sameNow bw K e.key=some b)->(∃e ∈ l,Instr.sameNow bw K e.key=some true)->
 ∃j,∃e ∈ l,Instr.sameNow bw K e.key=some true/\Instr.findNow bw K l i=some (some (j,e.val))
 | [],_,_,h=>by obtain ⟨e,he,_⟩:=h;simp at he
 | e::es,i,ae,ag=>by
   obtain ⟨b,ai⟩:=ae e (by simp);cases b with
   | true=>exact ⟨i,e,by simp,ai,by simp only [Instr.findNow,ai]⟩
   | false=>
     obtain ⟨fk,gW,az⟩:=ag;simp only [apy] at gW;rcases gW with rfl | gW
     . rw [ai] at az;cases az
     . obtain ⟨j,bu,ao,av,aC⟩:=PC (i:=i+1) (fun x au=>ae x (by simp [au])) ⟨fk,gW,az⟩;exact ⟨j,bu,by simp [ao],av,by simp only [Instr.findNow,ai,aC]⟩
theorem PD {E:Env} {bw:TypeDesc} {k:V} {K:Value} (aD:Rel E k K):∀(es:List fv) (l:List MapEntry) (r:Option V),tD (nL bw) k es=some r->tj E es l->
 (∀e ∈ l,∃b,Instr.sameNow bw K e.key=some b)/\(match r with
  | none=>∀e ∈ l,Instr.sameNow bw K e.key=some false
  | some v=>(∃e ∈ l,Instr.sameNow bw K e.key=some true)/\∀e ∈ l,Instr.sameNow bw K e.key=some true->Rel E v e.val)
 | [],l,r,h,U=>by simp only [tj] at U;subst U;simp only [tD,ao4] at h;subst h;exact ⟨fun e he=>by simp at he,fun e he=>by simp at he⟩
 | m::ms,l,r,h,U=>by
   obtain ⟨e,es,rfl,ae,ag,aT⟩:=U;simp only [tD] at h;cases aE:tD (nL bw) k ms with
   | none=>rw [aE] at h;cases h
   | some bq=>
     rw [aE] at h;simp only at h;obtain ⟨g1,g2⟩:=PD aD ms es bq aE aT;cases al:(nL bw).run k m.k with
     | none=>rw [al] at h;cases h
     | some b=>
       rw [al] at h;simp only at h;obtain ⟨ao,_⟩:=Jx al aD ae;have It:∀fk ∈ e::es,∃b,Instr.sameNow bw K fk.key=some b:=by
        intro fk gW;rcases apy.1 gW with rfl | gW
        . exact ⟨b,ao⟩
        . exact g1 fk gW
       refine ⟨It,?_⟩;cases b with
       | true=>
         simp only [apc] at h;cases bq with
         | some _=>cases h
         | none=>
           simp only [ao4] at h;subst h;refine ⟨⟨e,by simp,ao⟩,fun fk gW az=>?_⟩;rcases apy.1 gW with rfl | gW
           . exact ag
           . have:=g2 fk gW;rw [az] at this;cases this
       | false=>
         simp only [apg,ao4] at h;subst h;cases bq with
         | none=>
           intro fk gW;rcases apy.1 gW with rfl | gW
           . exact ao
           . exact g2 fk gW
         | some v=>
           obtain ⟨⟨ek,e5,fJ⟩,y3⟩:=g2;refine ⟨⟨ek,by simp [e5],fJ⟩,fun fk gW az=>?_⟩;rcases apy.1 gW with rfl | gW
           . rw [ao] at az;cases az
           . exact y3 fk gW az
theorem abk {E:Env} {bw:TypeDesc} {k:V} {K:Value} (aD:Rel E k K) {es:List fv} {l a:List MapEntry} {r:Option V} (h:tD (nL bw) k es=some r) (U:tj E es l) (aG:l.Perm a):
 ∃R,Instr.findNow bw K a 0=some R/\(match r with
  | none=>R=none
  | some v=>∃j Y,R=some (j,Y)/\Rel E v Y):=by
 obtain ⟨ae,ag⟩:=PD aD es l r h U;have hm:∀e,e ∈ a↔e ∈ l:=fun e=>aG.mem_iff.symm;cases r with
 | none=>exact ⟨none,PB fun e he=>ag e ((hm e).1 he),rfl⟩
 | some v=>
   obtain ⟨⟨ek,e5,fJ⟩,y3⟩:=ag;obtain ⟨j,e,ao,av,aC⟩:=PC (i:=0) (fun e he=>ae e ((hm e).1 he)) ⟨ek,(hm ek).2 e5,fJ⟩;exact ⟨_,aC,j,e.val,rfl,y3 e ((hm e).1 ao) av⟩
theorem aha {e:fA} {z:V} {ok:Bool} {h:ah} {x k v:V} (he:rV e z ok h x k=some v):
 p4 e z ok h x k=some v\/∃b es r,x=.map b/\h.get b=.l_ es/\tD e k es=some r/\v=(match r with
  | some u=>bif ok then .tuple [u,.bool true] else u
  | none=>bif ok then .tuple [z,.bool false] else z):=by
 unfold rV at he;cases x<;>simp only at he<;>try (exact .inl he)
 rename_i b;cases ay:h.get b<;>rw [ay] at he<;>simp only at he<;>try (exact .inl he)
 rename_i es;cases aE:tD e k es with
 | none=>rw [aE] at he;cases he
 | some r=>
   rw [aE] at he;refine .inr ⟨b,es,r,rfl,ay,aE,?_⟩;cases r<;>simp only [ao4] at he<;>exact he.symm
theorem ag_ {aB:Fr} {E:Env} {h:ah} {w:World} (s:bE aB E h w) {t:TypeId} {ok:Bool} {x k v:V} {X K:Value} (au:Rel E x X) (aD:Rel E k K) (he:(E9 P t ok).run h x k=some v):
 ∃Z,(Instr.lookup t X K ok).run P w=.ok Z w/\Rel E v Z:=by
 unfold E9 at he;cases az:bh P t with
 | none=>rw [az] at he;cases he
 | some aS=>
   rw [az] at he;simp only at he;have hu:=hf az w;cases cB:aS.bw<;>rw [cB] at he<;>simp only at he<;>try (cases he;done)
   rename_i en mZ;rw [cB] at hu;cases xc:bh P en with
   | none=>rw [xc] at he;cases he
   | some je=>
     rw [xc] at he;simp only at he;cases het:bh P mZ with
     | none=>rw [het] at he;cases he
     | some bp=>
       rw [het] at he;simp only at he;cases bN:bp.zero with
       | none=>rw [bN] at he;cases he
       | some z=>
         rw [bN] at he;simp only at he;cases aE:nm je.bw with
         | false=>
           rw [aE] at he;simp only [apg] at he;have BJ:∃e,AF P w E en e K/\p4 e z ok h x k=some v:=by
            cases rO:kU P en with
            | true=>
              rw [rO] at he;exact ⟨_,G1 s rO K,he⟩
            | false=>
              rw [rO] at he;simp only [apg] at he;cases eL:nX P en with
              | false=>rw [eL] at he;cases he
              | true=>
                rw [eL] at he;simp only [apc] at he;obtain ⟨ay,he⟩:=fV he;exact ⟨_,G2 eL ay aD,he⟩
           clear he;obtain ⟨e,ask,he⟩:=BJ;obtain ⟨wc,pg,om,_⟩:=Ah (P:=P) het bN E w;simp only [p4] at he;cases hm:vE h x with
           | none=>rw [hm] at he;cases he
           | some es=>
             rw [hm] at he;simp only at he;cases sB:qy e k es with
             | none=>rw [sB] at he;cases he
             | some r=>
               rw [sB] at he;simp only at he;have main:∀(l:List MapEntry),gk E es l->∃R,(Instr.findKey en K l).run P w=.ok R w/\
                ((R=none/\Rel E v (if ok=true then .tuple #[wc,.bool false] else wc))\/∃j Y,R=some (j,Y)/\Rel E v (if ok=true then .tuple #[Y,.bool true] else Y)):=by
                intro l aH;obtain ⟨R,g1,g2⟩:=Pz ask.eq aD es l r 0 sB aH;refine ⟨R,ask.find g1,?_⟩;cases r with
                | none=>
                  simp only at g2 he;refine .inl ⟨g2,?_⟩;simp only [ao4] at he;subst he;cases ok
                  . exact om
                  . simp only [apc,apd,Rel,bI];exact ⟨_,rfl,_,_,rfl,om,_,_,rfl,rfl,rfl⟩
                | some u=>
                  simp only at g2 he;obtain ⟨j,Y,c1,hb⟩:=g2;refine .inr ⟨j,Y,c1,?_⟩;simp only [ao4] at he;subst he;cases ok
                  . exact hb
                  . simp only [apc,apd,Rel,bI];exact ⟨_,rfl,_,_,rfl,hb,_,_,rfl,rfl,rfl⟩
               rcases JL (P:=P) s hm au with ⟨rfl,rfl⟩ | ⟨aW,a,clock,rfl,gb,B2⟩
               . obtain ⟨R,g1,g2⟩:=main [] rfl;have l3:=ask.check true;rcases g2 with ⟨rfl,g3⟩ | ⟨j,Y,rfl,g3⟩
                 all_goals
                  refine ⟨_,?_,g3⟩;simp only [Instr.lookup,Sem.run_bind,hu,Result.andThen_ok,Sem.run_pure];have aP:(#[]:Array MapEntry).isEmpty=true:=rfl;rw [aP,l3,Result.andThen_ok,g1,Result.andThen_ok];simp only [Sem.run_bind,pg,Result.andThen_ok,Sem.run_pure]
               . obtain ⟨R,g1,g2⟩:=main a.toList B2;have l3:=ask.check a.isEmpty;rcases g2 with ⟨rfl,g3⟩ | ⟨j,Y,rfl,g3⟩
                 all_goals
                  refine ⟨_,?_,g3⟩;simp only [Instr.lookup,Sem.run_bind,hu,Result.andThen_ok,Sem.run_pure,gb];rw [l3,Result.andThen_ok,g1,Result.andThen_ok];simp only [Sem.run_bind,pg,Result.andThen_ok,Sem.run_pure]
         | true=>
           rw [aE] at he;simp only [apc] at he;obtain ⟨wc,pg,om,_⟩:=Ah (P:=P) het bN E w;have pb:=hf xc w;rcases aha he with he | ⟨b,es,r,rfl,ay,acR,rfl⟩
           case inr=>
            simp only [Rel] at au;obtain ⟨p,aG,rfl⟩:=au;have ai:=s.at aG;rw [ay] at ai;obtain ⟨p',a,c,l,nd,_,bM,EO,adZ⟩:=ai;rw [aG] at nd;cases nd;obtain ⟨R,g1,g2⟩:=abk aD acR EO adZ;have gb:(getObj p.bn).run P w=.ok (.map a c) w:=by simp only [getObj,Sem.run,bM]
            have l3:=run_checkKey (P:=P) aE pb a.isEmpty K;have Ef:=run_findKey pb g1;cases r with
            | none=>
              simp only at g2;subst g2;refine ⟨if ok=true then .tuple #[wc,.bool false] else wc,?_,?_⟩
              . simp only [Instr.lookup,Sem.run_bind,hu,Result.andThen_ok,Sem.run_pure,gb];rw [l3,Result.andThen_ok,Ef,Result.andThen_ok];simp only [Sem.run_bind,pg,Result.andThen_ok,Sem.run_pure]
              . cases ok
                . exact om
                . simp only [apc,apd,Rel,bI];exact ⟨_,rfl,_,_,rfl,om,_,_,rfl,rfl,rfl⟩
            | some u=>
              simp only at g2;obtain ⟨j,Y,rfl,hb⟩:=g2;refine ⟨if ok=true then .tuple #[Y,.bool true] else Y,?_,?_⟩
              . simp only [Instr.lookup,Sem.run_bind,hu,Result.andThen_ok,Sem.run_pure,gb];rw [l3,Result.andThen_ok,Ef,Result.andThen_ok];simp only [Sem.run_bind,Sem.run_pure,Result.andThen_ok]
              . cases ok
                . exact hb
                . simp only [apc,apd,Rel,bI];exact ⟨_,rfl,_,_,rfl,hb,_,_,rfl,rfl,rfl⟩
           simp only [p4] at he;cases hm:vE h x with
           | none=>rw [hm] at he;cases he
           | some es=>
             rw [hm] at he;simp only at he;cases sB:qy (nL je.bw) k es with
             | none=>rw [sB] at he;cases he
             | some r=>
               rw [sB] at he;simp only at he;have main:∀(l:List MapEntry),gk E es l->∃R,(Instr.findKey en K l).run P w=.ok R w/\
                ((R=none/\Rel E v (if ok=true then .tuple #[wc,.bool false] else wc))\/∃j Y,R=some (j,Y)/\Rel E v (if ok=true then .tuple #[Y,.bool true] else Y)):=by
                intro l aH;obtain ⟨R,g1,g2⟩:=PE aD es l r 0 sB aH;refine ⟨R,run_findKey pb g1,?_⟩;cases r with
                | none=>
                  simp only at g2 he;refine .inl ⟨g2,?_⟩;simp only [ao4] at he;subst he;cases ok
                  . exact om
                  . simp only [apc,apd,Rel,bI];exact ⟨_,rfl,_,_,rfl,om,_,_,rfl,rfl,rfl⟩
                | some u=>
                  simp only at g2 he;obtain ⟨j,Y,c1,hb⟩:=g2;refine .inr ⟨j,Y,c1,?_⟩;simp only [ao4] at he;subst he;cases ok
                  . exact hb
                  . simp only [apc,apd,Rel,bI];exact ⟨_,rfl,_,_,rfl,hb,_,_,rfl,rfl,rfl⟩
               rcases JL (P:=P) s hm au with ⟨rfl,rfl⟩ | ⟨aW,a,clock,rfl,gb,B2⟩
               . obtain ⟨R,g1,g2⟩:=main [] rfl;have l3:=run_checkKey (P:=P) aE pb true K;rcases g2 with ⟨rfl,g3⟩ | ⟨j,Y,rfl,g3⟩
                 all_goals
                  refine ⟨_,?_,g3⟩;simp only [Instr.lookup,Sem.run_bind,hu,Result.andThen_ok,Sem.run_pure];have aP:(#[]:Array MapEntry).isEmpty=true:=rfl;rw [aP,l3,Result.andThen_ok,g1,Result.andThen_ok];simp only [Sem.run_bind,pg,Result.andThen_ok,Sem.run_pure]
               . obtain ⟨R,g1,g2⟩:=main a.toList B2;have l3:=run_checkKey (P:=P) aE pb a.isEmpty K;rcases g2 with ⟨rfl,g3⟩ | ⟨j,Y,rfl,g3⟩
                 all_goals
                  refine ⟨_,?_,g3⟩;simp only [Instr.lookup,Sem.run_bind,hu,Result.andThen_ok,Sem.run_pure,gb];rw [l3,Result.andThen_ok,g1,Result.andThen_ok];simp only [Sem.run_bind,pg,Result.andThen_ok,Sem.run_pure]
theorem TP {aB:Fr} {E:Env} {h af:ah} {w:World} (s:bE aB E h w) {t:TypeId} {x k v:V} {X K Y:Value} (au:Rel E x X) (aD:Rel E k K) (b0:Rel E v Y) (he:(v7 P t).run h x k v=some af):
 ∃w',(Instr.mapUpdate t X K Y).run P w=.ok () w'/\bE aB E af w':=by
 unfold v7 at he;cases az:bh P t with
 | none=>rw [az] at he;cases he
 | some aS=>
   rw [az] at he;simp only at he;have hu:=hf az w;cases cB:aS.bw<;>rw [cB] at he<;>simp only at he<;>try (cases he;done)
   rename_i en mZ;rw [cB] at hu;cases xc:bh P en with
   | none=>rw [xc] at he;cases he
   | some je=>
     rw [xc] at he;simp only at he;cases aE:nm je.bw with
     | false=>
       rw [aE] at he;simp only [apg] at he;have BJ:∃e,AF P w E en e K/\q_ e h x k v=some af:=by
        cases rO:kU P en with
        | true=>
          rw [rO] at he;exact ⟨_,G1 s rO K,he⟩
        | false=>
          rw [rO] at he;simp only [apg] at he;cases eL:nX P en with
          | false=>rw [eL] at he;cases he
          | true=>
            rw [eL] at he;simp only [apc] at he;obtain ⟨ay,he⟩:=fV he;exact ⟨_,G2 eL ay aD,he⟩
       clear he;obtain ⟨e,ask,he⟩:=BJ;cases x<;>simp only [q_] at he<;>try (cases he;done)
       rename_i b;simp only [Rel] at au;obtain ⟨p,aG,rfl⟩:=au;have ai:=s.at aG;cases ay:h.get b<;>rw [ay] at he<;>simp only [c'.nP] at he<;>try (cases he;done)
       rename_i es clock;rw [ay] at ai;obtain ⟨q,a,ae,cj,ar,aT⟩:=ai;rw [aG] at ae;cases ae;cases xl:pw e k v clock es with
       | none=>rw [xl] at he;cases he
       | some r=>
         rw [xl] at he;simp only [ao4] at he;subst he;have gb:(getObj p.bn).run P w=.ok (.map a clock) w:=by simp only [getObj,Sem.run,ar]
         have l3:=ask.check false;have pf:=(ao5.1 ar).1;have Bn:∀(bF:Array MapEntry) (eX:Nat),gk E r.1 bF.toList->eX=(bif r.2 then clock+1 else clock)->
          ∃w',(setObj p.bn (.map bF eX)).run P w=.ok () w'/\bE aB E (h.set b (.mp r.1 (bif r.2 then clock+1 else clock))) w':=by
          intro bF eX hm ax;refine ⟨{w with heap:=w.heap.setIfInBounds p.bn (.map bF eX)},by simp only [setObj,Sem.run,ar],s.set (p:=p) (by rw [ay];rfl) aG cj (by simp) (fun j cY=>?_) rfl rfl rfl (fun _ _ _ e=>by cases e) ?_⟩
          . simp only [apq];rw [ao_ (fun e=>cY e.symm)]
          . exact ⟨p,bF,aG,cj,by simp [pf,ax],hm⟩
         obtain ⟨g1,g2⟩:=SC ask.eq aD b0 clock es a.toList r 0 xl aT;cases pU:r.2 with
         | true=>
           obtain ⟨cM,a2⟩:=g1 pU;obtain ⟨w',d1,d2⟩:=Bn (a.push ⟨K,Y,clock⟩) (clock+1) (by simpa using a2) (by rw [pU];rfl);rw [pU] at d2;refine ⟨w',?_,d2⟩;simp only [Instr.mapUpdate,Sem.run_bind,hu,Result.andThen_ok,gb,l3,ask.find cM,d1]
         | false=>
           obtain ⟨j,ab,Vu,cM,a2,a3,a4⟩:=g2 pU;obtain ⟨w',d1,d2⟩:=Bn (a.modify j fun ab=>{ab with key:=K,val:=Y}) clock (by simpa using a4) (by rw [pU];rfl);rw [pU] at d2;refine ⟨w',?_,d2⟩;rw [apH] at cM;have aP:a[j]? =some ab:=by simpa using a2
           simp only [Instr.mapUpdate,Sem.run_bind,hu,Result.andThen_ok,gb,l3,ask.find cM,aP,Option.map,Option.getD,Instr.keyThatStays,a3,apd,Sem.run_pure,d1]
     | true=>
       rw [aE] at he;simp only [apc] at he;have pb:=hf xc w;cases x<;>simp only [q_] at he<;>try (cases he;done)
       rename_i b;simp only [Rel] at au;obtain ⟨p,aG,rfl⟩:=au;have ai:=s.at aG;cases ay:h.get b<;>rw [ay] at he<;>simp only [c'.nP] at he<;>try (cases he;done)
       rename_i es clock;rw [ay] at ai;obtain ⟨q,a,ae,cj,ar,aT⟩:=ai;rw [aG] at ae;cases ae;cases xl:pw (nL je.bw) k v clock es with
       | none=>rw [xl] at he;cases he
       | some r=>
         rw [xl] at he;simp only [ao4] at he;subst he;have gb:(getObj p.bn).run P w=.ok (.map a clock) w:=by simp only [getObj,Sem.run,ar]
         have l3:=run_checkKey (P:=P) aE pb false K;have pf:=(ao5.1 ar).1;have done:∀(bF:Array MapEntry) (eX:Nat),gk E r.1 bF.toList->eX=(bif r.2 then clock+1 else clock)->
          ∃w',(setObj p.bn (.map bF eX)).run P w=.ok () w'/\bE aB E (h.set b (.mp r.1 (bif r.2 then clock+1 else clock))) w':=by
          intro bF eX hm ax;refine ⟨{w with heap:=w.heap.setIfInBounds p.bn (.map bF eX)},by simp only [setObj,Sem.run,ar],s.set (p:=p) (by rw [ay];rfl) aG cj (by simp) (fun j cY=>?_) rfl rfl rfl (fun _ _ _ e=>by cases e) ?_⟩
          . simp only [apq];rw [ao_ (fun e=>cY e.symm)]
          . exact ⟨p,bF,aG,cj,by simp [pf,ax],hm⟩
         obtain ⟨g1,g2⟩:=SD aD b0 clock es a.toList r 0 xl aT;cases pU:r.2 with
         | true=>
           obtain ⟨cM,a2⟩:=g1 pU;obtain ⟨w',d1,d2⟩:=done (a.push ⟨K,Y,clock⟩) (clock+1) (by simpa using a2) (by rw [pU];rfl);rw [pU] at d2;refine ⟨w',?_,d2⟩;simp only [Instr.mapUpdate,Sem.run_bind,hu,Result.andThen_ok,gb,l3,run_findKey pb cM,d1]
         | false=>
           obtain ⟨j,e,Vu,cM,a2,a3,a4⟩:=g2 pU;obtain ⟨w',d1,d2⟩:=done (a.modify j fun e=>{e with key:=K,val:=Y}) clock (by simpa using a4) (by rw [pU];rfl);rw [pU] at d2;refine ⟨w',?_,d2⟩;rw [apH] at cM;have aP:a[j]? =some e:=by simpa using a2
           simp only [Instr.mapUpdate,Sem.run_bind,hu,Result.andThen_ok,gb,l3,run_findKey pb cM,aP,Option.map,Option.getD,Instr.keyThatStays,a3,apd,Sem.run_pure,d1]
theorem RO {aB:Fr} {E:Env} {h af:ah} {w:World} (s:bE aB E h w) {v:V} (he:zW h=.val v af):ep aB P E w (do pure (.map (some (<-newObj (.map #[] 0))))) v af:=by
 unfold zW at he;simp only [bk.val.injEq] at he;obtain ⟨rfl,rfl⟩:=he;have fb:=s.fresh h.next (ao1 _)
 have fh:E.put (an h.next) ⟨w.heap.size,0,0⟩ (an h.next)=some ⟨w.heap.size,0,0⟩:=by unfold Env.put;rw [ape rfl]
 refine ⟨.map (some w.heap.size),{w with heap:=w.heap.push (.map #[] 0)},_,?_,Env.p0 (p:=⟨w.heap.size,0,0⟩) fb,?_,s.alloc 0 ?_⟩
 . simp only [Sem.run_bind,run_newObj,Result.andThen_ok,Sem.run_pure]
 . simp only [Rel];exact ⟨_,fh,rfl⟩
 . exact ⟨_,#[],fh,s.frame.size,by simp,rfl⟩
theorem ahe {aB:Fr} {E:Env} {h af:ah} {w:World} (s:bE aB E h w) {t:TypeId} {x:Option V} {X:Option Value} {v:V} (au:jK E x X) (he:zN P t x h=.val v af):ep aB P E w (Instr.makeMap t X) v af:=by
 unfold zN at he;cases az:bh P t with
 | none=>rw [az] at he;cases he
 | some aS=>
   rw [az] at he;simp only at he;have hu:=hf az;cases ai:Nat.beq (gw aS.bw) 3 with
   | false=>rw [ai] at he;cases he
   | true=>
     rw [ai] at he;simp only [apc] at he;cases x with
     | none=>
       have:X=none:=by cases X with | none=>rfl | some _=>simp [jK] at au
       subst this;simp only [vD] at he;have:=RO (P:=P) s he;exact this
     | some u=>
       simp only [vD] at he;obtain ⟨dL,n,rfl,ae⟩:=uo he;obtain ⟨Y,rfl,hb⟩:∃Y,X=some Y/\Rel E (.int dL n) Y:=by
        cases X with
        | none=>simp [jK] at au
        | some Y=>simp only [jK] at au;obtain ⟨anz,ae,ag⟩:=au;cases ae;exact ⟨_,rfl,ag⟩
       have:=hb.kx;subst this;obtain ⟨Z,w',aw,ao,av⟩:=RO (P:=P) s ae;refine ⟨Z,w',aw,?_,av⟩;cases cB:aS.bw<;>rw [cB] at ai<;>simp [gw] at ai;have hu:=hu w;rw [cB] at hu;simp only [Instr.makeMap,Sem.run_bind,hu,Result.andThen_ok,asInt,Sem.run_pure];exact ao
theorem agL {aB:Fr} {E:Env} {h af:ah} {w:World} (s:bE aB E h w) {t:TypeId} {aS:pL} (az:bh P t=some aS) (hm:vx aS.bw=true) {x v:V} {X:Value} (au:Rel E x X) (ty:TypeId) (rest:List TypeId)
 (he:Cv [x] h=.val v af):ep aB P E w (Builtin.len_ (t::rest).toArray ty #[X]) v af:=by
 simp only [Cv] at he;cases al:vE h x with
 | none=>rw [al] at he;cases he
 | some es=>
   rw [al] at he;simp only [bk.val.injEq] at he;obtain ⟨rfl,rfl⟩:=he;have hu:=hf az w;cases cB:aS.bw<;>rw [cB] at hm<;>simp [vx] at hm;rw [cB] at hu;rcases JL (P:=P) s al au with ⟨rfl,rfl⟩ | ⟨aW,a,clock,rfl,gb,B2⟩
   . refine ep.plain (Z:=goInt 0) s ?_ (by simp [Rel,goInt]);simp [Builtin.len_,hu]
   . have hlen:∀(ms:List fv) (l:List MapEntry),gk E ms l->l.length=ms.length:=by
      intro ms
      induction ms with
      | nil=>intro l h;simp only [gk] at h;subst h;rfl
      | cons m ms b6=>intro l h;obtain ⟨e,es,rfl,_,_,_,aT⟩:=h;simp [b6 _ aT]
     refine ep.plain (Z:=goInt a.size) s ?_ ?_
     . simp [Builtin.len_,hu,gb]
     . have:=hlen _ _ B2;simp only [Array.length_toList] at this;simp [Rel,goInt,this]
end
section
variable {P:Program}
theorem Px {E:Env} {v:V} {Y:Value} (b0:Rel E v Y) {n:Nat}:∀(es:List fv) (l:List MapEntry) (r:List fv),y1 n v es=some r->gk E es l->
 ∃j,l.findIdx? (fun e=>(e.born:Int) == (n:Int))=some j/\gk E r (l.modify j fun e=>{e with val:=Y})
 | [],l,r,h,U=>by cases h
 | m::ms,l,r,h,U=>by
   obtain ⟨e,es,rfl,ae,ag,ar,aT⟩:=U;simp only [y1] at h;cases ai:Nat.beq m.born n with
   | true=>
     rw [ai] at h;simp only [apc,ao4] at h;subst h;have aF:=ap3 ai;refine ⟨0,by simp [List.findIdx?_cons,ar,aF],?_⟩;exact ⟨_,es,rfl,ae,b0,ar,aT⟩
   | false=>
     rw [ai] at h;simp only [apg] at h;cases aE:y1 n v ms with
     | none=>rw [aE] at h;cases h
     | some bq=>
       rw [aE] at h;simp only [ao4] at h;subst h;obtain ⟨j,g1,g2⟩:=Px b0 ms es bq aE aT;have dY:¬((e.born:Int) == (n:Int))=true:=by
        rw [ar];intro aI;have Qy:(m.born:Int)=(n:Int):=by simpa using aI
        have adF:m.born=n:=by omega
        rw [adF,Nat.beq_refl] at ai;cases ai
       refine ⟨j+1,by simp only [List.findIdx?_cons,dY];simp [g1],⟨e,_,by simp [List.modify],ae,ag,ar,g2⟩⟩
theorem aaP {aB:Fr} {E:Env} {h af:ah} {w:World} (s:bE aB E h w) {t:TypeId} {x st v:V} {X S Y:Value} (au:Rel E x X) (eL:Rel E st S) (b0:Rel E v Y) (he:Bs h x st v=some af):
 ∃w',(Instr.entryStore t X S Y).run P w=.ok () w'/\bE aB E af w':=by
 unfold Bs at he
 split at he
 case h_2=>cases he
 rename_i b
 split at he
 case h_2=>cases he
 rename_i dL m
 split at he
 case h_2=>cases he
 rename_i n;simp only [Rel] at au eL;obtain ⟨p,aG,rfl⟩:=au;subst eL;have ai:=s.at aG;cases ay:h.get b<;>rw [ay] at he<;>simp only [c'.nP] at he<;>try (cases he;done)
 rename_i es clock;rw [ay] at ai;obtain ⟨q,a,ae,cj,ar,aT⟩:=ai;rw [aG] at ae;cases ae;cases aE:y1 n v es with
 | none=>rw [aE] at he;cases he
 | some r=>
   rw [aE] at he;simp only [ao4] at he;subst he;obtain ⟨j,g1,g2⟩:=Px b0 es a.toList r aE aT;have gb:(getObj p.bn).run P w=.ok (.map a clock) w:=by simp only [getObj,Sem.run,ar]
   have pf:=(ao5.1 ar).1;have Ef:a.findIdx? (fun e=>(e.born:Int) == (n:Int))=some j:=by rw [<-g1];cases a with | mk aok=>simp
   have b1:(asInt (.int dL (Int.ofNat n))).run P w=.ok (n:Int) w:=by simp [asInt,asIntOf]
   refine ⟨{w with heap:=w.heap.setIfInBounds p.bn (.map (a.modify j fun e=>{e with val:=Y}) clock)},?_,s.set (p:=p) (by rw [ay];rfl) aG cj (by simp) (fun j cY=>?_) rfl rfl rfl (fun _ _ _ e=>by cases e) ?_⟩
   . simp only [Instr.entryStore,Sem.run_bind,gb,Result.andThen_ok,b1,Ef,setObj,Sem.run,ar]
   . simp only [apq];rw [ao_ (fun e=>cY e.symm)]
   . exact ⟨p,a.modify j fun e=>{e with val:=Y},aG,cj,by simp [pf],by rw [Array.toList_modify];exact g2⟩
theorem PA {w:World} {E:Env} {en:TypeId} {e:fA} (eh:yA P w E en e) {k:V} {K:Value} (aD:Rel E k K):∀(es:List fv) (l:List MapEntry) (r:Option fv) (i:Nat),y2 e k es=some r->gk E es l->
 (r=none->(Instr.findAsking en K l i).run P w=.ok none w)/\
 (∀m,r=some m->∃j ab,(Instr.findAsking en K l i).run P w=.ok (some (i+j,ab.val)) w/\l[j]? =some ab/\ab.key=K/\Rel E m.v ab.val/\ab.born=m.born/\Instr.sameBits 10000 K K=true/\gk E es (l.modify j fun ab=>{ab with key:=K}))
 | [],l,r,i,h,U=>by simp only [gk] at U;subst U;simp only [y2,ao4] at h;subst h;exact ⟨fun _=>rfl,fun m hm=>by cases hm⟩
 | m::ms,l,r,i,h,U=>by
   obtain ⟨ab,es,rfl,ae,ag,ar,aT⟩:=U;simp only [y2] at h;cases al:e.run k m.k with
   | none=>rw [al] at h;cases h
   | some b=>
     rw [al] at h;simp only at h;obtain ⟨ao,av⟩:=eh _ _ _ _ _ al aD ae;cases b with
     | true=>
       simp only [apc,ao4] at h;subst h;obtain ⟨aC,bs⟩:=av rfl;refine ⟨fun h=>(by cases h),fun dv hm=>?_⟩;cases hm;exact ⟨0,ab,by simp [Instr.findAsking,ao],rfl,aC,ag,ar,bs,⟨_,es,rfl,by rw [<-aC];exact ae,ag,ar,aT⟩⟩
     | false=>
       simp only [apg] at h;obtain ⟨g1,g2⟩:=PA eh aD ms es r (i+1) h aT;refine ⟨fun h=>by simp [Instr.findAsking,ao,g1 h],fun dv hm=>?_⟩;obtain ⟨j,aaK,cM,a2,a3,a4,a5,nD,GV⟩:=g2 dv hm;exact ⟨j+1,aaK,by simp [Instr.findAsking,ao,cM];omega,by simpa using a2,a3,a4,a5,nD,⟨ab,_,rfl,ae,ag,ar,GV⟩⟩
theorem RC {aB:Fr} {E:Env} {h af:ah} {w:World} (s:bE aB E h w) {t en mZ:TypeId} (hu:(underlying t).run P w=.ok (.map en mZ) w) {e:fA} {z:V} {Z:Value} (bN:(zeroValue mZ).run P w=.ok Z w) (om:Rel E z Z)
 {x k v:V} {X K:Value} (au:Rel E x X) (aD:Rel E k K) (ask:AF P w E en e K) (he:zP e z h x k=some (v,af)):ep aB P E w (Instr.mapEntry t X K) v af:=by
 unfold zP at he
 split at he
 case h_2=>cases he
 rename_i b;simp only [Rel] at au;obtain ⟨p,aG,rfl⟩:=au;have ai:=s.at aG;cases ay:h.get b<;>rw [ay] at he<;>simp only [c'.nP] at he<;>try (cases he;done)
 rename_i es clock;rw [ay] at ai;obtain ⟨q,a,ae,cj,ar,aT⟩:=ai;rw [aG] at ae;cases ae;have gb:(getObj p.bn).run P w=.ok (.map a clock) w:=by simp only [getObj,Sem.run,ar]
 have l3:=ask.check false;have pf:=(ao5.1 ar).1;have Bn:∀(mv:List fv) (bF:Array MapEntry) (eX:Nat),gk E mv bF.toList->
  ∃w',(setObj p.bn (.map bF eX)).run P w=.ok () w'/\bE aB E (h.set b (.mp mv eX)) w':=by
  intro mv bF eX hm;refine ⟨{w with heap:=w.heap.setIfInBounds p.bn (.map bF eX)},by simp only [setObj,Sem.run,ar],s.set (p:=p) (by rw [ay];rfl) aG cj (by simp) (fun j cY=>?_) rfl rfl rfl (fun _ _ _ e=>by cases e) ?_⟩
  . simp only [apq];rw [ao_ (fun e=>cY e.symm)]
  . exact ⟨p,bF,aG,cj,by simp [pf],hm⟩
 cases aE:y2 e k es with
 | none=>rw [aE] at he;cases he
 | some r=>
   rw [aE] at he;simp only at he;obtain ⟨g1,g2⟩:=PA ask.eq aD es a.toList r 0 aE aT;cases r with
   | none=>
     simp only [ao4,apX] at he;obtain ⟨rfl,rfl⟩:=he;have cM:=ask.find (g1 rfl);obtain ⟨w',d1,d2⟩:=Bn (es++[⟨k,z,clock⟩]) (a.push ⟨K,Z,clock⟩) (clock+1) (by
      have:∀(es:List fv) (l:List MapEntry),gk E es l->gk E (es++[⟨k,z,clock⟩]) (l++[⟨K,Z,clock⟩]):=by
       intro es
       induction es with
       | nil=>intro l aH;simp only [gk] at aH;subst aH;exact ⟨_,_,rfl,aD,om,rfl,rfl⟩
       | cons m ms b6=>intro l aH;obtain ⟨ab,mv,rfl,bW,df,ic,oU⟩:=aH;exact ⟨ab,_,rfl,bW,df,ic,b6 _ oU⟩
      simpa using this es a.toList aT)
     refine ⟨.tuple #[Z,goInt clock],w',E,?_,Env.le.refl E,?_,d2⟩
     . simp only [Instr.mapEntry,Sem.run_bind,hu,Result.andThen_ok,gb,l3,cM,bN,d1,Sem.run_pure]
     . simp only [Rel,bI];exact ⟨_,rfl,_,_,rfl,om,_,_,rfl,rfl,rfl⟩
   | some m=>
     simp only [ao4,apX] at he;obtain ⟨rfl,rfl⟩:=he;obtain ⟨j,ab,cM,a2,a3,a4,a5,nD,GV⟩:=g2 m rfl;rw [apH] at cM;have bW:=ask.find cM;have aP:a[j]? =some ab:=by simpa using a2
     obtain ⟨w',d1,d2⟩:=Bn es (a.modify j fun ab=>{ab with key:=K}) clock (by rw [Array.toList_modify];exact GV);refine ⟨.tuple #[ab.val,goInt ab.born],w',E,?_,Env.le.refl E,?_,d2⟩
     . simp only [Instr.mapEntry,Sem.run_bind,hu,Result.andThen_ok,gb,l3,bW,aP,Option.map,Option.getD,a3,Instr.keyThatStays,nD,apd,Sem.run_pure,d1]
     . simp only [Rel,bI];exact ⟨_,rfl,_,_,rfl,a4,_,_,rfl,by rw [a5];rfl,rfl⟩
theorem ahh {aB:Fr} {E:Env} {h af:ah} {w:World} (s:bE aB E h w) {t:TypeId} {x k v:V} {X K:Value} (au:Rel E x X) (aD:Rel E k K) (he:(E_ P t).run x k h=.val v af):ep aB P E w (Instr.mapEntry t X K) v af:=by
 unfold E_ at he;cases az:bh P t with
 | none=>rw [az] at he;cases he
 | some aS=>
   rw [az] at he;simp only at he;have hu:=hf az w;cases cB:aS.bw<;>rw [cB] at he<;>simp only at he<;>try (cases he;done)
   rename_i en mZ;rw [cB] at hu;cases het:bh P mZ with
   | none=>rw [het] at he;cases he
   | some bp=>
     rw [het] at he;simp only at he;cases bN:bp.zero with
     | none=>rw [bN] at he;cases he
     | some z=>
       rw [bN] at he;simp only at he;obtain ⟨wc,pg,om,_⟩:=Ah (P:=P) het bN E w;cases rO:kU P en with
       | true=>
         rw [rO] at he;simp only [apc,HL] at he;cases hm:zP ⟨nV h⟩ z h x k with
         | none=>rw [hm] at he;cases he
         | some r=>
           rw [hm] at he;simp only [bk.val.injEq] at he;obtain ⟨rfl,rfl⟩:=he;exact RC s hu pg om au aD (G1 s rO K) hm
       | false=>
         rw [rO] at he;simp only [apg] at he;cases eL:nX P en with
         | false=>rw [eL] at he;cases he
         | true=>
           rw [eL] at he;simp only [apc,HM] at he;cases ay:sN P en k with
           | false=>rw [ay] at he;cases he
           | true=>
             rw [ay] at he;simp only [apc] at he;cases hm:zP (structEq P en) z h x k with
             | none=>rw [hm] at he;cases he
             | some r=>
               rw [hm] at he;simp only [bk.val.injEq] at he;obtain ⟨rfl,rfl⟩:=he;exact RC s hu pg om au aD (G2 eL ay aD) hm
end
section
variable {P:Program}
theorem P4 (n:Nat):∀(l:List Nat),vk l n=true↔n ∈ l
 | []=>by simp [vk]
 | x::xs=>by
   simp only [vk];cases ai:Nat.beq x n with
   | true=>have:=ap3 ai;subst this;simp
   | false=>
     have dY:x≠n:=fun e=>by subst e;rw [Nat.beq_refl] at ai;cases ai
     simp [P4 n xs,Ne.symm dY]
theorem acq {a:Array Nat} {seen:List Nat} (h:a.toList=seen.reverse) (n:Nat):a.contains n=vk seen n:=by rw [apR,P4,Array.contains_iff_mem,<-Array.mem_toList_iff,h,List.mem_reverse]
theorem Rl {E:Env} {a:Array Nat} {seen:List Nat} (h:a.toList=seen.reverse):∀(ms:List fv) (l:List MapEntry),gk E ms l->gk E (leftOf seen ms) (l.filter fun e=>!a.contains e.born)
 | [],l,U=>by simp only [gk] at U;subst U;rfl
 | m::ms,l,U=>by
   obtain ⟨e,es,rfl,ae,ag,ar,aT⟩:=U;have b6:=Rl h ms es aT;have aI:a.contains e.born=vk seen m.born:=by rw [acq h,ar]
   cases ai:vk seen m.born with
   | true=>
     rw [ai] at aI;rw [List.filter_cons_of_neg (by rw [aI];decide)];simp only [leftOf,ai,apc];exact b6
   | false=>
     rw [ai] at aI;rw [List.filter_cons_of_pos (by rw [aI];decide)];simp only [leftOf,ai,apg];exact ⟨e,_,rfl,ae,ag,ar,b6⟩
theorem Ml {E:Env} {last:Nat}:∀(ms:List fv) (l:List MapEntry),gk E ms l->l.all (fun e=>decide (e.born>=last))=yI last ms
 | [],l,U=>by simp only [gk] at U;subst U;rfl
 | m::ms,l,U=>by
   obtain ⟨e,es,rfl,ae,ag,ar,aT⟩:=U;simp only [yI,aqI,Ml ms es aT,ar];cases ai:Nat.ble last m.born with
   | true=>rw [apn] at ai;simp [ai]
   | false=>
     have:¬last<=m.born:=by rw [<-Nat.ble_eq,ai];simp
     simp [this]
theorem MB {E:Env} {n:Nat}:∀(ms:List fv) (l:List MapEntry) (m:fv),gk E ms l->Bb n ms=some m->∃e,l.find? (fun e=>e.born == n)=some e/\Rel E m.k e.key/\Rel E m.v e.val
 | [],l,m,U,h=>by cases h
 | x::xs,l,m,U,h=>by
   obtain ⟨e,es,rfl,ae,ag,ar,aT⟩:=U;simp only [Bb] at h;cases ai:Nat.beq x.born n with
   | true=>
     rw [ai] at h;simp only [apc,ao4] at h;subst h;have:=ap3 ai;exact ⟨e,by simp [List.find?_cons,ar,this],ae,ag⟩
   | false=>
     rw [ai] at h;simp only [apg] at h;obtain ⟨fk,g1,g2⟩:=MB xs es m aT h;have dY:x.born≠n:=fun e=>by rw [e,Nat.beq_refl] at ai;cases ai
     exact ⟨fk,by simp [List.find?_cons,ar,dY,g1],g2⟩
theorem J' {k:c'} {f:List fv->Nat->bk} {v:V} {af:ah} (h:k.nP .fail f=.val v af):∃es clock,k=.mp es clock/\f es clock=.val v af:=by
 cases k<;>simp only [c'.nP] at h<;>first
  | (cases h;done)
  | exact ⟨_,_,rfl,h⟩
theorem R2 {v:V} {f:aO->Nat->bk} {r:V} {af:ah} (h:v.lK .fail f=.val r af):∃b off,v=.ptr b off/\f b off=.val r af:=by
 cases v<;>simp only [V.lK] at h<;>first
  | (cases h;done)
  | exact ⟨_,_,rfl,h⟩
theorem akA {aB:Fr} {E:Env} {h af:ah} {w:World} (s:bE aB E h w) {t en mZ:TypeId} (hu:(underlying t).run P w=.ok (.map en mZ) w) {x v:V} {X:Value} (au:Rel E x X) (he:rangeMap x h=.val v af):ep aB P E w (Instr.range t X) v af:=by
 have fb:=s.fresh h.next (ao1 _)
 have fh:E.put (an h.next) ⟨w.heap.size,0,0⟩ (an h.next)=some ⟨w.heap.size,0,0⟩:=by unfold Env.put;rw [ape rfl]
 unfold rangeMap at he
 split at he
 . simp only [bk.val.injEq] at he;obtain ⟨rfl,rfl⟩:=he;simp only [Rel] at au;subst au;refine ⟨.pointer (some ⟨w.heap.size,0,none⟩),{w with heap:=w.heap.push (.mapIter none 0 #[] 0)},_,?_,Env.p0 (p:=⟨w.heap.size,0,0⟩) fb,?_,s.alloc 0 ?_⟩
   . simp only [Instr.range,Sem.run_bind,hu,Result.andThen_ok,Sem.run_pure,run_newObj]
   . simp only [Rel];exact ⟨_,fh,by simp⟩
   . exact ⟨_,none,#[],fh,s.frame.size,rfl,by simp,rfl,rfl⟩
 . rename_i c;obtain ⟨es,clock,ay,he⟩:=J' he;simp only [bk.val.injEq] at he;obtain ⟨rfl,rfl⟩:=he;simp only [Rel] at au;obtain ⟨p,aG,rfl⟩:=au;have ai:=s.at aG;rw [ay] at ai;obtain ⟨q,a,ae,cj,ar,aT⟩:=ai;rw [aG] at ae;cases ae;have gb:(getObj p.bn).run P w=.ok (.map a clock) w:=by simp only [getObj,Sem.run,ar]
   have hle:E.le (E.put (an h.next) ⟨w.heap.size,0,0⟩):=Env.p0 fb;refine ⟨.pointer (some ⟨w.heap.size,0,none⟩),{w with heap:=w.heap.push (.mapIter (some p.bn) clock #[] clock)},_,?_,hle,?_,s.alloc 0 ?_⟩
   . simp only [Instr.range,Sem.run_bind,hu,Result.andThen_ok,Sem.run_pure,gb,run_newObj]
   . simp only [Rel];exact ⟨_,fh,by simp⟩
   . exact ⟨_,some p.bn,#[],fh,s.frame.size,rfl,by simp,rfl,p,hle _ _ aG,rfl⟩
 . cases he
theorem ahK {aB:Fr} {E:Env} {h af:ah} {w:World} (s:bE aB E h w) {x v:V} {X:Value} {ty:TypeId} (au:Rel E x X) (he:gg x h=.val v af):ep aB P E w (Instr.next X false ty) v af:=by
 unfold gg at he;obtain ⟨b,off,rfl,ae⟩:=R2 he;clear he;have ai:=s.at (p:=_) (by simp only [Rel] at au;exact au.choose_spec.1);cases ay:h.get b<;>rw [ay] at ae<;>simp only at ae<;>try (cases ae;done)
 rename_i src since seen last;rw [ay] at ai;cases aL:Nat.beq off 0 with
 | false=>rw [aL] at ae;cases ae
 | true=>
 rw [aL] at ae;simp only [apc] at ae;have aL:=ap3 aL;subst aL;obtain ⟨p,m,a,aG,cj,sx,bM,b1,lD⟩:=ai;simp only [Rel] at au;obtain ⟨q,aI,rfl⟩:=au;rw [aG] at aI;cases aI;have gb:(getObj p.bn).run P w=.ok (.mapIter m since a last) w:=by simp only [getObj,Sem.run,bM]
 have over:Rel E (.tuple [.bool false]) (.tuple #[.bool false]):=by simp only [Rel,bI];exact ⟨_,rfl,_,_,rfl,rfl,rfl⟩
 cases src with
 | none=>
   simp only [wy] at lD;subst lD;simp only [bk.val.injEq] at ae;obtain ⟨rfl,rfl⟩:=ae;refine ep.plain (Z:=.tuple #[.bool false]) s ?_ over;simp only [Instr.next,sx,Sem.run_bind,gb,Result.andThen_ok,Sem.run_pure]
 | some c=>
   simp only [wy] at lD;obtain ⟨vN,rN,rfl⟩:=lD;simp only at ae;obtain ⟨es,clock,IG,ae⟩:=J' ae;have BK:=s.at rN;rw [IG] at BK;obtain ⟨q,pq,g1,_,g3,g4⟩:=BK;rw [rN] at g1;cases g1;have Ez:(getObj vN.bn).run P w=.ok (.map pq clock) w:=by simp only [getObj,Sem.run,g3]
   cases ax:(!seen.isEmpty&&(!es.isEmpty&&yI last es)) with
   | true=>rw [ax] at ae;cases ae
   | false=>
     rw [ax] at ae;simp only [apg] at ae;have aP:a.isEmpty=seen.isEmpty:=by
      have:a.toList.isEmpty=seen.reverse.isEmpty:=by rw [b1]
      simpa using this
     have bu:pq.isEmpty=es.isEmpty:=by
      cases es with
      | nil=>simp only [gk] at g4;have:pq=#[]:=Array.toList_inj.1 g4
             simp [this]
      | cons y eo=>obtain ⟨e,l,aH,_⟩:=g4;have:pq.toList.isEmpty=false:=by rw [aH];rfl
                   simpa using this
     have cT:pq.all (fun e=>decide (e.born>=last))=yI last es:=by rw [<-Ml es _ g4,Array.all_toList]
     have P':(!a.isEmpty&&!pq.isEmpty&&pq.all (fun e=>decide (e.born>=last)))=false:=by rw [aP,bu,cT,Bool.and_assoc];exact ax
     have BX:=Rl (E:=E) b1 es _ g4;have Qd:(pq.filter fun e=>!a.contains e.born).toList=pq.toList.filter fun e=>!a.contains e.born:=by simp
     cases aH:leftOf seen es with
     | nil=>
       rw [aH] at ae BX;simp only [JW,bk.val.injEq] at ae;obtain ⟨rfl,rfl⟩:=ae;simp only [gk] at BX;have hJ:(pq.filter fun e=>!a.contains e.born)=#[]:=by apply Array.toList_inj.1;rw [Qd,BX]
       refine ep.plain (Z:=.tuple #[.bool false]) s ?_ over;simp only [Instr.next,sx,Sem.run_bind,gb,Result.andThen_ok,Ez,P',ao2,apa,hJ,Sem.run_pure];simp [choose,Sem.run,Question.forced]
     | cons y eo=>
       rw [aH] at ae BX;cases eo with
       | cons _ _=>cases ae
       | nil=>
         simp only [JW] at ae;cases a1:Nat.blt y.born since with
         | false=>rw [a1] at ae;cases ae
         | true=>
           rw [a1] at ae;simp only [apc,bk.val.injEq] at ae;obtain ⟨rfl,rfl⟩:=ae;rw [apG] at a1;obtain ⟨e,r,U,dr,dZ,hT,fP⟩:=BX;simp only [gk] at fP;subst fP;have hJ:(pq.filter fun e=>!a.contains e.born)=#[e]:=by apply Array.toList_inj.1;rw [Qd,U]
           rw [<-hT] at a1 ⊢
           let dT:Obj:=.mapIter (some vN.bn) since (a.push e.born) clock
           let w':World:={w with heap:=w.heap.setIfInBounds p.bn dT}
           have pf:=(ao5.1 bM).1;have tX:(setObj p.bn dT).run P w=.ok () w':=by simp only [setObj,Sem.run,bM];rfl
           have vq:¬since<=e.born:=by omega
           refine ⟨.tuple #[.bool true,e.key,e.val],w',E,?_,Env.le.refl E,?_,s.set (p:=p) (by rw [ay];rfl) aG cj (by simp [w']) (fun j cY=>?_) rfl rfl rfl (fun _ _ _ e=>by cases e) ?_⟩
           . simp only [Instr.next,sx,Sem.run_bind,gb,Result.andThen_ok,Ez,P',ao2,apa,hJ,Sem.run_pure];have ae:(#[e]:Array MapEntry).filter (fun x=>decide (x.born<since))=#[e]:=by simp [a1]
             have ag:(#[e]:Array MapEntry).filter (fun x=>decide (x.born>=since))=#[]:=by simp [a1]
             have w6:(choose (.mapNext 1)).run P w=.ok 0 w:=by simp [choose,Sem.run,Question.forced]
             simp only [ae,ag];simp [w6];change ((setObj p.bn dT).run P w).andThen _=_;rw [tX];rfl
           . simp only [Rel,bI];exact ⟨_,rfl,_,_,rfl,rfl,_,_,rfl,dr,_,_,rfl,dZ,rfl⟩
           . simp only [w',apq];rw [ao_ (fun e=>cY e.symm)]
           . exact ⟨p,some vN.bn,a.push e.born,aG,cj,sx,by simp [w',pf,dT],by simp [b1],vN,rN,rfl⟩
theorem aaQ {aB:Fr} {E:Env} {h af:ah} {w:World} (s:bE aB E h w) {x v:V} {X:Value} (au:Rel E x X) (he:D4 x h=.val v af):ep aB P E w (Instr.entry X) v af:=by
 unfold D4 at he;obtain ⟨b,off,rfl,ae⟩:=R2 he;clear he;have ai:=s.at (p:=_) (by simp only [Rel] at au;exact au.choose_spec.1);cases ay:h.get b<;>rw [ay] at ae<;>simp only at ae<;>try (cases ae;done)
 rename_i src since seen last;rw [ay] at ai;cases aL:Nat.beq off 0 with
 | false=>rw [aL] at ae;cases ae
 | true=>
 rw [aL] at ae;simp only [apc] at ae;have aL:=ap3 aL;subst aL;obtain ⟨p,m,a,aG,cj,sx,bM,b1,lD⟩:=ai;simp only [Rel] at au;obtain ⟨q,aI,rfl⟩:=au;rw [aG] at aI;cases aI;have gb:(getObj p.bn).run P w=.ok (.mapIter m since a last) w:=by simp only [getObj,Sem.run,bM]
 cases src with
 | none=>cases ae
 | some c=>
   simp only [wy] at lD;obtain ⟨vN,rN,rfl⟩:=lD;simp only at ae;cases seen with
   | nil=>cases ae
   | cons n aos=>
   simp only at ae;obtain ⟨es,clock,IG,ae⟩:=J' ae;have BK:=s.at rN;rw [IG] at BK;obtain ⟨q,pq,g1,_,g3,g4⟩:=BK;rw [rN] at g1;cases g1;have Ez:(getObj vN.bn).run P w=.ok (.map pq clock) w:=by simp only [getObj,Sem.run,g3]
   rename_i ab1 _;clear ab1;cases o8:Nat.beq clock last with
   | false=>rw [o8] at ae;cases ae
   | true=>
     rw [o8] at ae;simp only [apc] at ae;have:=ap3 o8;subst this;cases Ip:Bb n es with
     | none=>rw [Ip] at ae;cases ae
     | some y=>
       rw [Ip] at ae;simp only [bk.val.injEq] at ae;obtain ⟨rfl,rfl⟩:=ae;obtain ⟨e,f1,f2,f3⟩:=MB es _ y g4 Ip;have acw:a.back? =some n:=by
        have:a.toList.getLast? =some n:=by rw [b1];simp
        simpa using this
       have oc:pq.find? (fun e=>e.born == n)=some e:=by rw [<-f1];simp
       refine ep.plain (Z:=.tuple #[e.key,e.val]) s ?_ ?_
       . simp only [Instr.entry,sx,Sem.run_bind,gb,Result.andThen_ok,acw,Ez,bne_self_eq_false,ao2,apa,oc,Sem.run_pure]
       . simp only [Rel,bI];exact ⟨_,rfl,_,_,rfl,f2,_,_,rfl,f3,rfl⟩
end
section
variable {P:Program}
theorem VZ {aB:Fr} {E:Env} {h af:ah} {w:World} (s:bE aB E h w) {t u e:TypeId} {size:Nat} (adC:1<=size) {x v:V} {X Y:Value} {ty:TypeId} {n:Nat} {new:List V} {l:List Value}
 (aH:bI E new l) (jc:new.length=n * size) (gr:n<=top)
 (hS:∀(w':World) (A:Option Addr) (dV hg:Nat),dV+n<=hg->(∀a,A=some a->(storeCells (a.add (dV * size)) l).run P w=.ok () w')->(A=none->w'=w)->
   (Builtin.append_ #[t,u] ty #[.slice A dV hg,Y]).run P w=.ok (.slice A (dV+n) hg) w')
 (hC:∀(A:Option Addr) (dV hg:Nat) (cr:List Value),(∀w':World,w'.heap=w.heap->(Builtin.firstCells size dV (.slice A dV hg)).run P w'=.ok cr.toArray w')->¬dV+n<=hg->dV+n<=top->cr.length=dV * size->l.length=n * size->
   ∃cap rest w',dV+n<=cap/\cap * size<=((cr++l).toArray++rest).size/\
   (Builtin.append_ #[t,u] ty #[.slice A dV hg,Y]).run P w=.ok (.slice (some ⟨w.heap.size,0,none⟩) (dV+n) cap) w'/\
   w'.heap=w.heap.push (.cells ((cr++l).toArray++rest) e)/\w'.os=w.os/\w'.tape=w.tape/\w'.output=w.output)
 (he:GX size n new x h=.val v af) (au:Rel E x X):ep aB P E w (Builtin.append_ #[t,u] ty #[X,Y]) v af:=by
 have rK:l.length=n * size:=by rw [aH.length,jc]
 unfold GX at he;cases x<;>simp only at he<;>try (cases he;done)
 . -- a slice of known capacity
   rename_i b off len cap;simp only [Rel] at au;obtain ⟨p,aG,tR,rfl⟩:=au;simp only [wA] at he;cases gF:Nat.ble (len+n) cap with
   | true=>
     rw [gF] at he;simp only [apc] at he;rw [apn] at gF;cases nb:lay h b (off+len * size) new with
     | none=>rw [nb] at he;cases he
     | some ae=>
     rw [nb] at he;simp only [bk.val.injEq] at he;obtain ⟨rfl,rfl⟩:=he;obtain ⟨w',eL,l8⟩:=zI (P:=P) s aH nb aG;refine ⟨_,w',E,hS w' _ _ _ gF (fun a b1=>?_) (fun b1=>by cases b1),Env.le.refl E,?_,l8⟩
     . cases b1;rw [add_eq,apU];exact eL
     . simp only [Rel];exact ⟨p,aG,gF,rfl⟩
   | false=>
     rw [gF] at he;simp only [apg] at he;have I9:¬len+n<=cap:=by rw [<-Nat.ble_eq,gF];simp
     obtain ⟨ai,he⟩:=n2 he;simp only [ao7,apn] at ai;cases hold:q9 h size b off len with
     | none=>rw [hold] at he;cases he
     | some cr=>
     rw [hold] at he;simp only at he;cases h1:nr h (cr++new) size false with
     | none=>rw [h1] at he;cases he
     | some ae=>
     rw [h1] at he;simp only [bk.val.injEq] at he;obtain ⟨rfl,rfl⟩:=he;obtain ⟨q,cW,aI,hK,tS,lB⟩:=Ap (P:=P) s ⟨p,aG⟩ hold;rw [aG] at aI;cases aI;obtain ⟨c,rest,w',dr,dZ,hT,fP,jH,hU,jR⟩:=hC (some ⟨p.bn,p.base+off,none⟩) (len) (cap) _
      (fun w' hw=>by simp only [Builtin.firstCells];exact lB w' hw) I9 ai.1 (by rw [hK.length,tS]) rK
     obtain ⟨aw,g1,g2,g3⟩:=xM (w':=w') (cK:=(0,0)) s (hK.append aH) h1 dZ (.inr (ao1 _)) (fun _=>rfl) fP jH hU jR;refine ⟨_,w',aw,hT,g1,?_,g3⟩;simp only [Rel];exact ⟨_,g2,by simp only;omega,by simp⟩
 . -- one that was appended to
   rename_i b off len idx;have Cf:=au;simp only [Rel] at au;obtain ⟨p,aG,Qh,rfl⟩:=au;simp only [wz] at he;cases k_:Nat.beq n 0 with
   | true=>
     rw [k_] at he;simp only [apc] at he;cases he;rw [apz] at k_;subst k_;have tP:l=[]:=by cases l with | nil=>rfl | cons _ _=>simp at rK
     subst tP;refine ⟨_,w,E,hS w _ _ _ (by omega) (fun a _=>rfl) (fun b1=>by cases b1),Env.le.refl E,?_,s⟩;simpa using Cf
   | false=>
     rw [k_] at he;simp only [apg] at he;have qB:=s.at aG;cases ay:h.get b with
     | dead=>rw [ay] at he;cases he
     | view _ _=>rw [ay] at he;cases he
     | iter _ _=>rw [ay] at he;cases he
     | mp _ _=>rw [ay] at he;cases he
     | hL _=>rw [ay] at he;cases he
     | ie=>rw [ay] at he;cases he
     | l_ _=>rw [ay] at he;cases he
     | lf _ _ _ _=>rw [ay] at he;cases he
     | cells N cs dA st=>
       rw [ay] at he qB;simp only [c'.on] at he;obtain ⟨ai,he⟩:=n2 he;simp only [ao7,apn,apz] at ai;obtain ⟨⟨IA,IZ,I1⟩,B5⟩:=ai;cases hold:q9 h size b off len with
       | none=>rw [hold] at he;cases he
       | some cr=>
       rw [hold] at he;simp only at he;cases h1:nr (h.set b .dead) (cr++new) size st with
       | none=>rw [h1] at he;cases he
       | some ae=>
       rw [h1] at he;simp only [bk.val.injEq] at he;obtain ⟨rfl,rfl⟩:=he;obtain ⟨q,cW,aI,hK,tS,lB⟩:=Ap (P:=P) s ⟨p,aG⟩ hold;rw [aG] at aI;cases aI;obtain ⟨cP,q,c,el,cK,aP,cj,bM,sC,eL,o7,br⟩:=qB;rw [aG] at aP;cases aP;have tT:=adC;have o7:=o7 (by omega);rw [IA] at o7;have C5:=s.kill aG;by_cases gF:len+n<=p.cap-idx
       . -- in place
         have a1:=(ao5.1 bM).1;have ac3:(idx+len+n) * size<=p.cap * size:=apP _ (by omega);have hbound:p.base+off+len * size+0+l.length<=c.size:=by
          rw [rK,B5];have:(idx+len+n) * size=idx * size+len * size+n * size:=by rw [apW,apW]
          omega
         have Cb:=FV (P:=P) a1 el cK (p.base+off+len * size) l c 0 (Fl I1 aH) hbound sC;rw [Ly bM,ap_] at Cb;have I_:=hS (nx w p.bn (rS c (p.base+off+len * size) l) el cK) (some ⟨p.bn,p.base+off,none⟩) _ _ gF
          (fun a b1=>by cases b1;rw [add_eq];exact Cb) (fun b1=>by cases b1)
         unfold nr at h1;obtain ⟨ax,h1⟩:=fV h1;simp only [ao7,apn] at ax;simp only [ao4] at h1;subst h1;have fb:=s.fresh h.next (ao1 _)
         have hle:E.le (E.put (an h.next) ⟨p.bn,p.base+off,p.cap-idx⟩):=Env.p0 fb;have fh:E.put (an h.next) ⟨p.bn,p.base+off,p.cap-idx⟩ (an h.next)=some ⟨p.bn,p.base+off,p.cap-idx⟩:=by unfold Env.put;rw [ape rfl]
         refine ⟨_,_,_,I_,hle,?_,bE.add (p:=⟨p.bn,p.base+off,p.cap-idx⟩) C5 (by rw [Lz];exact ao1 _) (fun j _ cY=>Lx _ _ _ cY) cj (fun cp gi ku qE heq=>?_) rfl rfl rfl (fun _ _ _ e=>by injection e with _ _ cT;omega) ?_⟩
         . simp only [Rel];exact ⟨_,fh,by simp only;omega,by simp⟩
         . rw [ah.eC] at ku;by_cases k8:b=cp
           . rw [ape k8] at ku;cases ku
           . rw [ao_ k8] at ku;exact k8 (s.inj b cp p gi (by rw [ay];rfl) ku aG qE heq.symm)
         . have IQ:(cr++new).length=(len+n) * size:=by rw [apb,tS,jc,apW]
           have acN:(len+n) * size=len * size+n * size:=apW _ _ _;refine ⟨ax.1,_,_,el,cK,fh,cj,Dd a1 _ _ _,by rw [sO];exact sC,eL,fun _=>?_,?_⟩
           . rw [sO];simp only;have:idx * size + (p.cap-idx) * size=p.cap * size:=by rw [<-Nat.add_mul];congr 1;omega
             omega
           . refine ⟨by rw [sO,IQ,apW];simp only;omega,fun i y aM bm=>?_⟩;rw [CY _ _ _ _ (by omega) (by omega),ape (by omega),aqM];rw [E1 _ _ _ _ (by omega)] at bm;simp only at bm;by_cases dF:i<len * size
             . rw [ao_ (by omega)] at bm;rw [apC (by omega)];have gb:=lB w rfl;have I7:=run_loadCells (P:=P) (w:=w) (off:=p.base+off) (n:=len * size) bM (by omega);rw [I7] at gb;simp only [Result.ok.injEq,and_true] at gb;have IS:cW=(c.toList.drop (p.base+off)).take (len * size):=by
                have:=congrArg Array.toList gb;simpa using this.symm
               obtain ⟨ra,iP,U⟩:=hK.get i cr[i] (ao3 (by omega));rw [ao3 (by omega)];rw [IS] at iP;rw [apS (by omega),ap5] at iP;simp only [aqx] at iP;rw [bm] at iP;cases iP;exact Rel.mono hle _ _ U
             . rw [ape (by omega)] at bm;rw [apJ (by omega)];have cT:p.base+off+i - (p.base+off+len * size)=i-cr.length:=by omega
               rw [cT] at bm;have BZ:i-cr.length<new.length:=by omega
               obtain ⟨ra,iP,U⟩:=aH.get (i-cr.length) new[i-cr.length] (ao3 BZ);rw [bm] at iP;cases iP;rw [ao3 BZ];exact Rel.mono hle _ _ U
       . -- elsewhere
         obtain ⟨c8,rest,w',dr,dZ,hT,fP,jH,hU,jR⟩:=hC (some ⟨p.bn,p.base+off,none⟩) (len) (p.cap-idx) _
          (fun w' hw=>by simp only [Builtin.firstCells];exact lB w' hw) gF IZ (by rw [hK.length,tS]) rK
         obtain ⟨aw,g1,g2,g3⟩:=xM (w':=w') (cK:=(0,0)) C5 (hK.append aH) h1 dZ (.inr (ao1 _)) (fun _=>rfl) fP jH hU jR;refine ⟨_,w',aw,hT,g1,?_,g3⟩;simp only [Rel];exact ⟨_,g2,by simp only;omega,by simp⟩
 . -- nil
   simp only [Rel] at au;subst au;simp only [wB] at he;cases k_:Nat.beq n 0 with
   | true=>
     rw [k_] at he;simp only [apc] at he;cases he;rw [apz] at k_;subst k_;exact ep.plain s (hS w _ _ _ (by omega) (fun a b1=>by cases b1) (fun _=>rfl)) (by simp [Rel])
   | false=>
     rw [k_] at he;simp only [apg] at he;have rM:¬n=0:=by intro e;subst e;simp at k_
     cases h1:nr h new size false with
     | none=>rw [h1] at he;cases he
     | some ae=>
     rw [h1] at he;simp only [bk.val.injEq] at he;obtain ⟨rfl,rfl⟩:=he;obtain ⟨c,rest,w',dr,dZ,hT,fP,jH,hU,jR⟩:=hC (none) (0) (0) []
      (fun w' _=>by simp [Builtin.firstCells]) (by omega) (by omega) (by simp) rK
     obtain ⟨aw,g1,g2,g3⟩:=xM (w':=w') (cK:=(0,0)) s aH h1 dZ (.inr (ao1 _)) (fun _=>rfl) fP jH hU jR;refine ⟨_,w',aw,hT,g1,?_,g3⟩;simp only [Rel];exact ⟨_,g2,by simp only;omega,by simp⟩
structure GU (P:Program) (t u e:TypeId) (size bytes:Nat) (k:IntKind) (z:Value):Prop where
 ut:∀w,(underlying t).run P w=.ok (.slice e) w
 uM:∀w,(underlying u).run P w=.ok (.int k) w
 s5:∀w,(sizeOf e).run P w=.ok size w
 DI:∀w,∃i,(typeInfo e).run P w=.ok i w/\i.bytes=bytes
 Ax:∀w,(zeroValue e).run P w=.ok z w
 wb:z.cells.size=size
 pos:1<=size
 small:bytes<=4096
theorem T5 (c:Array Value):Builtin.zeroCells c 0=#[]:=by simp [Builtin.zeroCells]
theorem akX {t u e:TypeId} {size bytes:Nat} {k:IntKind} {z:Value} (H:GU P t u e size bytes k z) {n:Nat} (aF:n<=100000) {ty:TypeId} {w w':World} {A:Option Addr} {dV hg:Nat} (gF:dV+n<=hg)
 (eL:∀a,A=some a->(storeCells (a.add (dV * size)) (Builtin.zeroCells z.cells n).toList).run P w=.ok () w') (fb:A=none->w'=w):
 (Builtin.append_ #[t,u] ty #[.slice A dV hg,.int .i64 n]).run P w=.ok (.slice A (dV+n) hg) w':=by
 have hw:IntKind.i64.wrap (n:Int)=n:=by unfold IntKind.wrap;simp [IntKind.bits,IntKind.signed];omega
 obtain ⟨i,aM,sD⟩:=H.DI w;have vh:¬(281474976710656 < (n:Int) * (i.bytes:Int)):=by rw [sD];have ae:n * bytes<=100000 * 4096:=Nat.mul_le_mul aF H.small;have ag:((n * bytes:Nat):Int)=(n:Int) * (bytes:Int):=Int.natCast_mul _ _;omega
 have EJ:¬((n:Int)<0):=by omega
 have dS:size≠0:=by have:=H.pos;omega
 have b1:∀w,(asInt (.int .i64 (n:Int))).run P w=.ok (n:Int) w:=fun w=>by simp [asInt,asIntOf]
 have zc:∀w,(asInt (.int .i64 0)).run P w=.ok 0 w:=fun w=>by simp [asInt,asIntOf]
 have zw:IntKind.i64.wrap 0=0:=by decide
 cases A with
 | none=>
   have:=fb rfl;subst this;by_cases aL:n=0
   . subst aL;simp [Builtin.append_,H.ut,H.uM,H.s5,zc,aM,zw,(show dV<=hg from by omega)]
   . simp [Builtin.append_,H.ut,H.uM,H.s5,H.Ax,b1,aM,vh,hw,gF,EJ,dS,aL]
 | some a=>
   have:=eL a rfl;by_cases aL:n=0
   . subst aL;rw [T5] at this;simp [Builtin.append_,H.ut,H.uM,H.s5,zc,aM,zw,(show dV<=hg from by omega),this]
   . simp [Builtin.append_,H.ut,H.uM,H.s5,H.Ax,b1,aM,vh,hw,gF,EJ,Nat.mul_ne_zero aL dS,this]
theorem akY {t u e:TypeId} {size bytes:Nat} {k:IntKind} {z:Value} (H:GU P t u e size bytes k z) {n:Nat} (aF:n<=100000) {ty:TypeId} {w:World} (A:Option Addr) (dV hg:Nat) (cr:List Value)
 (hold:∀w':World,w'.heap=w.heap->(Builtin.firstCells size dV (.slice A dV hg)).run P w'=.ok cr.toArray w') (gF:¬dV+n<=hg) (B':dV+n<=top) (bJ:cr.length=dV * size) (aH:(Builtin.zeroCells z.cells n).toList.length=n * size):
 ∃cap rest w',dV+n<=cap/\cap * size<=((cr++(Builtin.zeroCells z.cells n).toList).toArray++rest).size/\
  (Builtin.append_ #[t,u] ty #[.slice A dV hg,.int .i64 n]).run P w=.ok (.slice (some ⟨w.heap.size,0,none⟩) (dV+n) cap) w'/\
  w'.heap=w.heap.push (.cells ((cr++(Builtin.zeroCells z.cells n).toList).toArray++rest) e)/\w'.os=w.os/\w'.tape=w.tape/\w'.output=w.output:=by
 have hw:IntKind.i64.wrap (n:Int)=n:=by simp only [IntKind.wrap,IntKind.bits,IntKind.signed];simp;omega
 obtain ⟨i,aM,sD⟩:=H.DI w;have ng:P.info? e=some i:=by
  simp only [typeInfo,Sem.run_bind,run_program,Result.andThen_ok] at aM;cases aI:P.info? e with
  | none=>rw [aI] at aM;simp at aM
  | some j=>rw [aI] at aM;simp at aM;rw [aM]
 have xa:∀w',(typeInfo e).run P w'=.ok i w':=fun w'=>Ag ng w';have aeg:¬(281474976710656 < (n:Int) * (i.bytes:Int)):=by rw [sD];have ae:n * bytes<=100000 * 4096:=Nat.mul_le_mul aF H.small;have ag:((n * bytes:Nat):Int)=(n:Int) * (bytes:Int):=Int.natCast_mul _ _;omega
 have vh:¬(281474976710656<Builtin.nextslicecap (dV+n) hg * i.bytes):=by
  have ae:hg<dV+n:=by omega
  have:=growslice_fits (bytes:=i.bytes) ae (by rw [sD];have ag:(dV+n) * bytes<=top * 4096:=Nat.mul_le_mul B' H.small;unfold top at ag;omega);omega
 have jP:¬(9223372036854775807 < ((dV:Int) + (n:Int))):=by unfold top at B';omega
 have EJ:¬((n:Int)<0):=by omega
 have dS:size≠0:=by have:=H.pos;omega
 have b1:∀w,(asInt (.int .i64 (n:Int))).run P w=.ok (n:Int) w:=fun w=>by simp [asInt,asIntOf]
 have zc:∀w,(asInt (.int .i64 0)).run P w=.ok 0 w:=fun w=>by simp [asInt,asIntOf]
 have zw:IntKind.i64.wrap 0=0:=by decide
 let q:Question:=.appendCap (dV+n) hg e
 let cap:=q.cut (w.tape w.drawn q)
 have o7:dV+n<=cap:=by show dV+n<=(dV+n)+_;omega
 refine ⟨cap,Builtin.zeroCells z.cells (cap - (dV+n)),w.drew.alloc (.cells ((cr++(Builtin.zeroCells z.cells n).toList).toArray++Builtin.zeroCells z.cells (cap - (dV+n))) e),o7,?_,?_,rfl,rfl,rfl,rfl⟩
 . simp only [Array.size_append,List.size_toArray,apb,bJ,aH];have:(Builtin.zeroCells z.cells (cap - (dV+n))).size=(cap - (dV+n)) * size:=by simp [Builtin.zeroCells,H.wb]
   rw [this,<-Nat.add_mul,<-Nat.add_mul];exact apP _ (by omega)
 . have f2:=hold w.drew rfl;by_cases aL:n=0
   . subst aL;have B8:¬dV<=hg:=by omega
     have acu:¬(9223372036854775807 < (dV:Int)):=by omega
     rw [ap_] at vh;simp [Builtin.append_,H.ut,H.uM,H.s5,H.Ax,zc,zw,xa,B8,vh,acu,Question.forced,f2,newRow];refine ⟨rfl,?_⟩;have aP:(cr++(Builtin.zeroCells z.cells 0).toList).toArray=cr.toArray:=by rw [T5];simp
     rw [aP];rfl
   . simp [Builtin.append_,H.ut,H.uM,H.s5,H.Ax,b1,hw,aeg,EJ,Nat.mul_ne_zero aL dS,gF,xa,vh,jP,Question.forced,f2,newRow];refine ⟨rfl,?_⟩;have aP:(cr++(Builtin.zeroCells z.cells n).toList).toArray=cr.toArray++Builtin.zeroCells z.cells n:=by simp
     rw [aP,Array.append_assoc]
end
section
variable {P:Program}
abbrev aq (rd:Option Nat):Fence:={fn:=fun _=>True,depth:=none,alive:=false,round:=rd}
theorem sj {rd:Option Nat} {n:Nat} {f:FuncId} {args:Array Value} {w:World} {R:Ending->World->Prop}:CallsIn (aq rd) n P f args w R↔Calls P f args w R:=callsIn_wide
theorem S2 {rd:Option Nat} (n:Nat):(aq rd).room n:=fun _ h=>by simp [aq] at h
abbrev nU (x:Value):List PanicEntry:=[{v:=x,recovered:=false}]
structure iv (P:Program) (call:gA):Prop where
 fn:∀(aB:Fr) f args h v af,f≠eA->call f args h=.val v af->∀E w xs,bI E args xs->bE aB E h w->
  ((∃fn,P.funcs[f]? =some fn/\fn.body.isSome=true)/\Calls P f xs.toArray w fun e w'=>∃aw x,e=.returned x/\E.le aw/\Rel aw v x/\bE aB aw af w')\/
  ∃aw x w',(callFunc f xs.toArray).run P w=.ok (.value x) w'/\E.le aw/\Rel aw v x/\bE aB aw af w'
 f':∀(aB:Fr) f args h v af,f≠eA->call f args h=.f' v af->∀E w xs,bI E args xs->bE aB E h w->
  (∃fn,P.funcs[f]? =some fn/\fn.body.isSome=true)/\Calls P f xs.toArray w fun e w'=>∃aw x,e=.panicked (nU x)/\E.le aw/\Rel aw v x/\bE aB aw af w'
 anc:∀(aB:Fr) args b h v af,call eA (args++[.ptr b 0]) h=.val v af->∀E w xs p,bI E args xs->bE aB E h w->E b=some p->
  ∃f tmps assign body,(Instr.yield p.bn xs.toArray).run P w=.ok (.round p.bn f tmps assign body) w/\
   RoundIn (aq none) 0 P p.bn f tmps assign body w fun e w'=>∃aw x,e=.returned x/\E.le aw/\Rel aw v x/\bE aB aw af w'
 ane:∀args h v af,call eA args h≠.f' v af
theorem r5 {rd:Option Nat} {o:Oper} (EH:∀c,o.op≠.defer c) (ρ:Operand->Value):o.semAt (aq rd).round ρ=execOp ρ o:=Oper.semAt_eq _ ρ o EH
theorem h' {rd:Option Nat} {o:Oper} {a:Act} {w:World} {aB:Fr} {E:Env} {af:ah} {v:V} {m:Sem Value} {K:Act->World->Prop} {Q:Exit->Act->World->Prop}
 (au:execOp a.eval o=(do pure (.value (<-m)))) (g:ep aB P E w m v af) (ey:∀aw x w',E.le aw->Rel aw v x->bE aB aw af w'->K (a.put o.dst x) w') (EH:∀c,o.op≠.defer c:=by intro c h;cases h):
 o.wpIn (aq rd) 0 P a w K Q:=by
 obtain ⟨Z,w',aw,ae,ag,ar,aT⟩:=g;refine ⟨fun _ _=>trivial,?_⟩;rw [r5 EH,au,Sem.run_bind,ae];exact ey aw Z w' ag ar aT
theorem Fs {E:Env} {aK:Nat} {r:c4} {a:Act} (k:RegRel0 E aK r a):∀l:List (Nat × Operand),ti E ((vM l).run r) (l.map fun (i,x)=>(i,a.eval x))
 | []=>rfl
 | (i,x)::l=>by simp only [vM,List.map,ti];exact ⟨_,_,rfl,fa k x,Fs k l⟩
theorem Fo {E:Env} {aK:Nat} {r:c4} {a:Act} (k:RegRel0 E aK r a) (x:Option Operand):jK E ((sY x).run r) (x.map a.eval):=by
 cases x with
 | none=>rfl
 | some x=>simp only [sY,jK,Option.map];exact ⟨_,rfl,fa k x⟩
theorem aib {v:V} {f:aO->Nat->bk} {r:V} {h:ah} (he:v.lK .fail f=.val r h):∃b off,v=.ptr b off/\f b off=.val r h:=by
 cases v<;>simp only [V.lK] at he<;>first
  | (cases he;done)
  | exact ⟨_,_,rfl,he⟩
theorem ahN {aB:Fr} {E:Env} {h af:ah} {w:World} (s:bE aB E h w) {x v:V} {X:Value} {ty:TypeId} (au:Rel E x X) (he:xO x h=.val v af):ep aB P E w (Instr.next X true ty) v af:=by
 unfold xO at he;obtain ⟨b,off,rfl,ae⟩:=aib he;have ai:=s.at (p:=_) (by simp only [Rel] at au;exact au.choose_spec.1);cases ay:h.get b with
 | dead=>rw [ay] at ae;cases ae
 | view _ _=>rw [ay] at ae;cases ae
 | cells _ _ _ _=>rw [ay] at ae;cases ae
 | mp _ _=>rw [ay] at ae;cases ae
 | hL _=>rw [ay] at ae;cases ae
 | ie=>rw [ay] at ae;cases ae
 | l_ _=>rw [ay] at ae;cases ae
 | lf _ _ _ _=>rw [ay] at ae;cases ae
 | iter st pos=>
   rw [ay] at ae ai;simp only at ae;obtain ⟨aL,ag⟩:=n2 ae;rw [apz] at aL;subst aL;obtain ⟨p,aG,cj,sx,bM⟩:=ai;simp only [Rel] at au;obtain ⟨q,aI,rfl⟩:=au;rw [aG] at aI;cases aI;have gb:(getObj p.bn).run P w=.ok (.stringIter ⟨⟨st⟩⟩ pos) w:=by simp only [getObj,Sem.run,bM]
   have dS:(⟨⟨st⟩⟩:ByteArray).size=st.length:=rfl;cases a1:Nat.blt pos st.length with
   | true=>
     rw [a1] at ag;simp only [apc,bk.val.injEq] at ag;obtain ⟨rfl,rfl⟩:=ag;rw [apG] at a1
     let dT:Obj:=.stringIter ⟨⟨st⟩⟩ (pos + (decodeL st pos).2)
     let w':World:={w with heap:=w.heap.setIfInBounds p.bn dT}
     have pf:=(ao5.1 bM).1;have tX:(setObj p.bn dT).run P w=.ok () w':=by simp only [setObj,Sem.run,bM];rfl
     refine ⟨.tuple #[.bool true,goInt pos,.int .i32 (decodeL st pos).1],w',E,?_,Env.le.refl E,?_,s.set (p:=p) (by rw [ay];rfl) aG cj (by simp [w']) (fun j cY=>?_) rfl rfl rfl (fun _ _ _ e=>by cases e) ?_⟩
     . simp only [Instr.next,sx,Sem.run_bind,gb,Result.andThen_ok,dS,ape a1];have:(Utf8.decode (⟨⟨st⟩⟩:ByteArray) pos)=decodeL st pos:=rfl;simp only [this];rw [tX];rfl
     . simp only [Rel,bI];exact ⟨_,rfl,_,_,rfl,rfl,_,_,rfl,rfl,_,_,rfl,rfl,rfl⟩
     . simp only [w',apq];rw [ao_ (fun e=>cY e.symm)]
     . exact ⟨p,aG,cj,sx,by simp [w',pf,dT]⟩
   | false=>
     rw [a1] at ag;simp only [apg,bk.val.injEq] at ag;obtain ⟨rfl,rfl⟩:=ag;have kN:¬pos<st.length:=by rw [<-Nat.blt_eq,a1];simp
     refine ep.plain (Z:=.tuple #[.bool false]) s ?_ ?_
     . simp only [Instr.next,sx,Sem.run_bind,gb,Result.andThen_ok,dS,ao_ kN,Sem.run_pure]
     . simp only [Rel,bI];exact ⟨_,rfl,_,_,rfl,rfl,rfl⟩
theorem akz {aB:Fr} {E:Env} {h af:ah} {w:World} (s:bE aB E h w) {t:TypeId} {x v:V} {X:Value} (au:Rel E x X) (he:(FH P t).run x h=.val v af):ep aB P E w (Instr.range t X) v af:=by
 unfold FH at he;cases az:bh P t with
 | none=>rw [az] at he;cases he
 | some aS=>
   rw [az] at he;simp only at he;have hu:=hf az;cases cB:aS.bw with
   | string=>
     rw [cB] at he hu;simp only at he;cases x<;>simp only at he<;>try (cases he;done)
     rename_i st;simp only [bk.val.injEq] at he;obtain ⟨rfl,rfl⟩:=he;have:=au.uF;subst this;have fb:=s.fresh h.next (ao1 _)
     have fh:E.put (an h.next) ⟨w.heap.size,0,0⟩ (an h.next)=some ⟨w.heap.size,0,0⟩:=by unfold Env.put;rw [ape rfl]
     refine ⟨.pointer (some ⟨w.heap.size,0,none⟩),{w with heap:=w.heap.push (.stringIter ⟨⟨st⟩⟩ 0)},_,?_,Env.p0 (p:=⟨w.heap.size,0,0⟩) fb,?_,s.alloc 0 ?_⟩
     . simp only [Instr.range,Sem.run_bind,hu,Result.andThen_ok,Sem.run_pure,run_newObj]
     . simp only [Rel];exact ⟨_,fh,by simp⟩
     . exact ⟨_,fh,s.frame.size,rfl,by simp⟩
   | map en mZ=>
     rw [cB] at he hu;exact akA s (hu w) au he
   | _=>rw [cB] at he;cases he
theorem VW {aB:Fr} {E:Env} {h af:ah} {w:World} (s:bE aB E h w) {t u:TypeId} {x y v:V} {X Y:Value} {ty:TypeId}
 (he:(DA P t u).run x y h=.val v af) (au:Rel E x X) (bm:Rel E y Y):ep aB P E w (Builtin.append_ #[t,u] ty #[X,Y]) v af:=by
 unfold DA at he;cases az:bh P t with
 | none=>rw [az] at he;cases he
 | some aS=>
   cases hu:bh P u with
   | none=>rw [az,hu] at he;cases he
   | some uK=>
     rw [az,hu] at he;simp only at he
     have main:(∀k,uK.bw≠.int k)->(match aS.bw with
      | .slice e=>match bh P e with
        | none=>(⟨fun _ _ _=>.fail⟩:AE)
        | some bp=>match bp.zero with
          | none=>⟨fun _ _ _=>.fail⟩
          | some z=>bif Nat.ble 1 bp.size&&Nat.ble bp.bytes 4096&&Nat.beq z.cells.length bp.size then ⟨l0 bp.size⟩ else ⟨fun _ _ _=>.fail⟩
      | _=>⟨fun _ _ _=>.fail⟩).run x y h=.val v af->ep aB P E w (Builtin.append_ #[t,u] ty #[X,Y]) v af:=by
      intro vp he;cases cB:aS.bw with
      | slice e=>
        rw [cB] at he;simp only at he;cases dd:bh P e with
        | none=>rw [dd] at he;cases he
        | some bp=>
          rw [dd] at he;simp only at he;cases bN:bp.zero with
          | none=>rw [bN] at he;cases he
          | some z=>
            rw [bN] at he;simp only at he;cases ax:(Nat.ble 1 bp.size&&Nat.ble bp.bytes 4096&&Nat.beq z.cells.length bp.size) with
            | false=>rw [ax] at he;cases he
            | true=>
              rw [ax] at he;simp only [apc] at he;simp only [ao7,apn,apz] at ax;obtain ⟨ny,xv,_,qH⟩:=uT (P:=P) (E:=E) dd bN w;refine VY s ⟨fun w=>?_,⟨uK.bw,fun w=>hf hu w,vp⟩,fun w=>lQ dd w,fun w=>FT dd w,⟨ny,xv,by rw [qH];exact ax.2⟩,ax.1.1,ax.1.2⟩ he au bm;have:=hf az w;rw [cB] at this;exact this
      | _=>rw [cB] at he;cases he
     cases zu:uK.bw with
     | int k=>
       rw [zu] at he;simp only at he;cases cB:aS.bw with
       | slice e=>
         rw [cB] at he;simp only at he;cases dd:bh P e with
         | none=>rw [dd] at he;cases he
         | some bp=>
           rw [dd] at he;simp only at he;cases bN:bp.zero with
           | none=>rw [bN] at he;cases he
           | some z=>
             rw [bN] at he;simp only at he;cases ax:(Nat.ble 1 bp.size&&Nat.ble bp.bytes 4096&&Nat.beq z.cells.length bp.size) with
             | false=>rw [ax] at he;cases he
             | true=>
               rw [ax] at he;simp only [apc] at he;simp only [ao7,apn,apz] at ax;obtain ⟨ny,xv,Jp,qH⟩:=uT (P:=P) (E:=E) dd bN w;have zv:∀w,(underlying t).run P w=.ok (.slice e) w:=fun w=>by have:=hf az w;rw [cB] at this;exact this
               have Jf:∀w,(underlying u).run P w=.ok (.int k) w:=fun w=>by have:=hf hu w;rw [zu] at this;exact this
               have H:GU P t u e bp.size bp.bytes k ny:=⟨zv,Jf,fun w=>lQ dd w,fun w=>FT dd w,xv,by rw [qH];exact ax.2,ax.1.1,ax.1.2⟩;unfold GY at he
               split at he
               case h_2=>cases he
               rename_i dL m
               split at he
               case h_2=>cases he
               rename_i n;obtain ⟨pQ,b0⟩:=n2 he;simp only [ao7,apn] at pQ;have aD:=yY pQ.1;subst aD;simp only [Rel] at bm;subst bm;have QE:=Ad Jp n;have hlen:(kV z.cells n).length=n * bp.size:=by rw [<-QE.length];simp [Builtin.zeroCells,qH,ax.2]
               exact VZ s ax.1.1 QE hlen (by have:=pQ.2;unfold top;omega) (fun w' A dV hg a b c=>akX H pQ.2 a b c) (fun A dV hg cr a b c d f=>akY H pQ.2 A dV hg cr a b c d f) b0 au
       | _=>rw [cB] at he;cases he
     | _=>rw [zu] at he;exact main (by rw [zu];simp) he
theorem ZQ {aB:Fr} {E:Env} {h af:ah} {w:World} (s:bE aB E h w) {t:TypeId} {rest:List TypeId} {x y v:V} {X Y:Value} {ty:TypeId}
 (he:(DQ P t).run x y h=.val v af) (au:Rel E x X) (bm:Rel E y Y):ep aB P E w (Builtin.copy_ (t::rest).toArray ty #[X,Y]) v af:=by
 unfold DQ at he;cases az:bh P t with
 | none=>rw [az] at he;cases he
 | some aS=>
   rw [az] at he;simp only at he;cases cB:aS.bw with
   | slice e=>
     rw [cB] at he;simp only at he;cases dd:bh P e with
     | none=>rw [dd] at he;cases he
     | some bp=>
       rw [dd] at he;simp only at he;exact ZR s (fun w=>by have:=hf az w;rw [cB] at this;exact this) (fun w=>lQ dd w) he au bm
   | _=>rw [cB] at he;cases he
theorem Zu {aB:Fr} {E:Env} {h af:ah} {w:World} (s:bE aB E h w) {t:TypeId} {x v:V} {X:Value} {ty:TypeId} {z:List V} (ax:Bk P t=some z)
 (he:DP z x h=.val v af) (au:Rel E x X):ep aB P E w (Builtin.clear_ #[t] ty #[X]) v af:=by
 unfold Bk at ax;cases az:bh P t with
 | none=>rw [az] at ax;cases ax
 | some aS=>
   rw [az] at ax;simp only at ax;cases cB:aS.bw with
   | slice e=>
     rw [cB] at ax;simp only at ax;cases dd:bh P e with
     | none=>rw [dd] at ax;cases ax
     | some bp=>
       rw [dd] at ax;simp only at ax;cases bN:bp.zero with
       | none=>rw [bN] at ax;cases ax
       | some z0=>
         rw [bN] at ax;simp only [ao4] at ax;subst ax;have hu:∀w,(underlying t).run P w=.ok (.slice e) w:=fun w=>by have:=hf az w;rw [cB] at this;exact this
         obtain ⟨z,om,Jp,QQ⟩:=uT (P:=P) (E:=E) dd bN w;have nothing:∀a c,X=.slice a 0 c->v=.tuple []->af=h->ep aB P E w (Builtin.clear_ #[t] ty #[X]) v af:=by
          intro a c di b0 bM;subst di b0 bM;refine ⟨.tuple #[],w,E,?_,Env.le.refl E,?_,s⟩
          . cases a<;>simp [Builtin.clear_,Sem.run_bind,hu,Result.andThen_ok,Sem.run_pure]
          . simp only [Rel];exact ⟨_,rfl,rfl⟩
         have Tf:∀(b:aO) (off n c:Nat) (p:kI),E b=some p->X=.slice (some ⟨p.bn,p.base+off,none⟩) n c->(bif Nat.beq n 0 then (bk.val (.tuple []) h) else (match lay h b off (kV z0.cells n) with
          | some af=>bk.val (.tuple []) af
          | none=>.fail))=.val v af->ep aB P E w (Builtin.clear_ #[t] ty #[X]) v af:=by
          intro b off n c p aG di he;cases n with
          | zero=>
            simp only [Nat.beq_refl,apc,bk.val.injEq] at he;exact nothing _ _ di he.1.symm he.2.symm
          | succ n=>
            simp only [show Nat.beq (n+1) 0=false from rfl,apg] at he;cases aH:lay h b off (kV z0.cells (n+1)) with
            | none=>rw [aH] at he;cases he
            | some ae=>
              rw [aH] at he;simp only [bk.val.injEq] at he;obtain ⟨rfl,rfl⟩:=he;obtain ⟨w',g1,g2⟩:=zI (P:=P) s (Ad Jp (n+1)) aH aG;subst di;refine ⟨.tuple #[],w',E,?_,Env.le.refl E,?_,g2⟩
              . simp only [Builtin.clear_,Sem.run_bind,List.getElem?_toArray,apj,hu,om,Result.andThen_ok];have:(storeCells ⟨p.bn,p.base+off,none⟩ (Builtin.zeroCells z.cells (n+1)).toList).run P w=.ok () w':=g1;simp [this,Sem.run_pure,Result.andThen_ok]
              . simp only [Rel];exact ⟨_,rfl,rfl⟩
         unfold DP at he;cases x<;>simp only at he<;>try (cases he;done)
         . simp only [Rel] at au;obtain ⟨p,g1,g2,g3⟩:=au;exact Tf _ _ _ _ p g1 g3 he
         . simp only [Rel] at au;obtain ⟨p,g1,g2,g3⟩:=au;exact Tf _ _ _ _ p g1 g3 he
         . simp only [Rel] at au;obtain ⟨a,c,rfl⟩:=au;simp only [bk.val.injEq] at he;exact nothing _ _ rfl he.1.symm he.2.symm
         . simp only [Rel] at au;simp only [bk.val.injEq] at he;exact nothing _ _ au he.1.symm he.2.symm
   | _=>rw [cB] at ax;cases ax
theorem Y5 {E:Env} {t:TypeId} {aS:pL} {x v:V} {X:Value} {ty:TypeId} (az:bh P t=some aS) (al:Ck aS.bw=true) (he:Bf x=some v) (au:Rel E x X) (w:World):
 ∃Z,(Builtin.cap_ #[t] ty #[X]).run P w=.ok Z w/\Rel E v Z:=by
 cases cB:aS.bw with
 | slice e=>
   have hu:∀w,(underlying t).run P w=.ok (.slice e) w:=fun w=>by have:=hf az w;rw [cB] at this;exact this
   cases x<;>simp only [Bf] at he<;>try (cases he;done)
   . simp only [Rel] at au;obtain ⟨p,_,_,rfl⟩:=au;cases he;refine ⟨_,?_,rfl⟩;simp [Builtin.cap_,Sem.run_bind,hu,Result.andThen_ok,Sem.run_pure];rfl
   . simp only [Rel] at au;subst au;cases he;refine ⟨_,?_,rfl⟩;simp [Builtin.cap_,Sem.run_bind,hu,Result.andThen_ok,Sem.run_pure];rfl
 | _=>rw [cB] at al;cases al
theorem C9 {α:Type} (a:Array α):a.toList.toArray=a:=by simp
theorem WQ {aB:Fr} {E:Env} {h af:ah} {w:World} (s:bE aB E h w) {b:Builtin} {dD:Array TypeId} {args:List V} {xs:List Value} {v:V} {ty:TypeId} {cs:Array Bool} (aH:bI E args xs)
 (he:(sf P b dD.toList).run args h=.val v af):∃m:Sem Value,Go.builtin b dD ty cs xs.toArray=(do pure (.value (<-m)))/\ep aB P E w m v af:=by
 have one:∀{x:V},bI E [x] xs->∃X,xs=[X]/\Rel E x X:=by intro x h;simp only [bI] at h;obtain ⟨y,eo,rfl,bm,rfl⟩:=h;exact ⟨y,rfl,bm⟩
 have two:∀{x y:V},bI E [x,y] xs->∃X Y,xs=[X,Y]/\Rel E x X/\Rel E y Y:=by intro x y h;simp only [bI] at h;obtain ⟨X,_,rfl,di,Y,_,rfl,hb,rfl⟩:=h;exact ⟨X,Y,rfl,di,hb⟩
 cases b<;>simp only [sf] at he<;>try (simp [hP.none] at he;done)
 . -- append
   cases gu:dD.toList with
   | nil=>rw [gu] at he;simp [hP.none] at he
   | cons t uH=>
     rw [gu] at he;cases uH with
     | nil=>simp [hP.none] at he
     | cons u ama=>
       cases ama with
       | cons _ _=>simp [hP.none] at he
       | nil=>
         simp only at he
         match args,he,aH with
         | [x,y],he,aH=>
           obtain ⟨X,Y,rfl,di,hb⟩:=two aH;have e:dD=#[t,u]:=by rw [<-C9 dD,gu]
           exact ⟨_,rfl,by rw [e];exact VW s he di hb⟩
         | [],he,_=>cases he
         | [_],he,_=>cases he
         | _::_::_::_,he,_=>cases he
 . -- cap
   cases gu:dD.toList with
   | nil=>rw [gu] at he;simp [hP.none] at he
   | cons t uH=>
     rw [gu] at he;cases uH with
     | cons _ _=>simp [hP.none] at he
     | nil=>
       simp only at he;cases az:bh P t with
       | none=>rw [az] at he;simp [hP.none] at he
       | some aS=>
         rw [az] at he;simp only at he;cases al:Ck aS.bw with
         | false=>rw [al] at he;simp [hP.none] at he
         | true=>
           rw [al] at he;simp only [apc] at he
           match args,he,aH with
           | [x],he,aH=>
             obtain ⟨X,rfl,di⟩:=one aH;have e:dD=#[t]:=by rw [<-C9 dD,gu]
             obtain ⟨fr,rfl⟩:=bk.kd he;obtain ⟨Z,hB,c1⟩:=Y5 (P:=P) (ty:=ty) az al fr di w;exact ⟨_,rfl,by rw [e];exact ep.plain s hB c1⟩
           | [],he,_=>cases he
           | _::_::_,he,_=>cases he
 . -- clear
   cases gu:dD.toList with
   | nil=>rw [gu] at he;simp [hP.none] at he
   | cons t uH=>
     rw [gu] at he;cases uH with
     | cons _ _=>simp [hP.none] at he
     | nil=>
       simp only at he;cases ax:Bk P t with
       | none=>rw [ax] at he;simp [hP.none] at he
       | some z=>
         rw [ax] at he;simp only at he
         match args,he,aH with
         | [x],he,aH=>
           obtain ⟨X,rfl,di⟩:=one aH;have e:dD=#[t]:=by rw [<-C9 dD,gu]
           exact ⟨_,rfl,by rw [e];exact Zu s ax he di⟩
         | [],he,_=>cases he
         | _::_::_,he,_=>cases he
 . -- copy
   cases gu:dD.toList with
   | nil=>rw [gu] at he;simp [hP.none] at he
   | cons t uH=>
     rw [gu] at he;simp only at he
     match args,he,aH with
     | [x,y],he,aH=>
       obtain ⟨X,Y,rfl,di,hb⟩:=two aH;have e:dD=(t::uH).toArray:=by rw [<-C9 dD,gu]
       exact ⟨_,rfl,by rw [e];exact ZQ s he di hb⟩
     | [],he,_=>cases he
     | [_],he,_=>cases he
     | _::_::_::_,he,_=>cases he
 . -- len
   cases gu:dD.toList with
   | nil=>rw [gu] at he;simp [hP.none] at he
   | cons t uH=>
     rw [gu] at he;cases uH with
     | cons _ _=>simp [hP.none] at he
     | nil=>
       simp only at he;cases az:bh P t with
       | none=>rw [az] at he;simp [hP.none] at he
       | some aS=>
         rw [az] at he;simp only at he
         match args,he,aH with
         | [x],he,aH=>
           obtain ⟨X,rfl,di⟩:=one aH;have e:dD=[t].toArray:=by rw [<-C9 dD,gu]
           cases hm:vx aS.bw with
           | true=>
             rw [hm] at he;exact ⟨_,rfl,by rw [e];exact agL s az hm di ty [] he⟩
           | false=>
             rw [hm] at he;simp only [apg] at he;obtain ⟨fr,rfl⟩:=bk.kd he;obtain ⟨Z,hB,c1⟩:=agM (P:=P) az fr di ty [] w;exact ⟨_,rfl,by rw [e];exact ep.plain s hB c1⟩
         | [],he,_=>cases hm:vx aS.bw<;>rw [hm] at he<;>cases he
         | _::_::_,he,_=>cases hm:vx aS.bw<;>rw [hm] at he<;>cases he
 . -- max
   obtain ⟨fr,rfl⟩:=bk.kd he;clear he;cases args with
   | nil=>cases fr
   | cons x args=>
     simp only [mL] at fr;obtain ⟨k,a,rfl,ae⟩:=lJ fr;simp only [bI] at aH;obtain ⟨X,eo,rfl,di,aH⟩:=aH;have:=di.kx;subst this;obtain ⟨Z,hB,c1⟩:=Kv (P:=P) false args eo k a v aH ae w;exact ⟨_,rfl,ep.plain (Z:=Z) s (by simpa [Builtin.max_] using hB) c1⟩
 . -- min
   obtain ⟨fr,rfl⟩:=bk.kd he;clear he;cases args with
   | nil=>cases fr
   | cons x args=>
     simp only [mL] at fr;obtain ⟨k,a,rfl,ae⟩:=lJ fr;simp only [bI] at aH;obtain ⟨X,eo,rfl,di,aH⟩:=aH;have:=di.kx;subst this;obtain ⟨Z,hB,c1⟩:=Kv (P:=P) true args eo k a v aH ae w;exact ⟨_,rfl,ep.plain (Z:=Z) s (by simpa [Builtin.min_] using hB) c1⟩
end
section
variable {P:Program}
def hn (P:Program):Prop:=∀(f:FuncId) (fn:Func),P.funcs[f]? =some fn->(fn.name == "runtime.NumGoroutine")=false
theorem vT (cP:hn P) {f:FuncId} {fn:Func} (aE:P.funcs[f]? =some fn) (ai:fn.body.isSome=true) (args:Array Value) (w:World):(callFunc f args).run P w=.ok (.enter f args) w:=by
 have iD:fn.body.isNone=false:=by cases h:fn.body with | none=>rw [h] at ai;cases ai | some c=>rfl
 simp only [callFunc,Sem.run_bind,run_program,Result.andThen_ok,aE];rw [ao_ (by rw [cP f fn aE];simp)];simp [iD]
theorem JM {α β:Type} (f:α->β) (a:Array α):a.map f=(a.toList.map f).toArray:=by apply aqq;simp
theorem Kq (ρ:Operand->Value) (bP:Array (Nat × Operand)):(bP.map fun (i,x)=>(i,ρ x))=(bP.toList.map fun (i,x)=>(i,ρ x)).toArray:=by apply aqq;simp
theorem Wc {E:Env} {t wa:TypeId} {aS:pL} {ok:Bool} {x v:V} {X:Value} (az:bh P t=some aS) (ai:Nat.beq (gw aS.bw) 5=false) (au:Rel E x X)
 (he:wD t aS.zero ok x=some v) (w:World):∃Z,(Instr.typeAssert X wa t ok).run P w=.ok Z w/\Rel E v Z:=by
 have hu:=hf az w;have vp:∀ms,aS.bw≠.interface ms:=fun ms e=>by rw [e] at ai;simp [gw] at ai
 have zero:∀z,aS.zero=some z->∃x,(zeroValue t).run P w=.ok x w/\Rel E z x:=fun z bN=>by obtain ⟨x,ae,ag,_⟩:=Ah (P:=P) az bN E w;exact ⟨x,ae,ag⟩
 unfold wD at he;cases x<;>simp only at he<;>try (cases he;done)
 case iface u y=>
  simp only [Rel] at au;obtain ⟨Y,rfl,hb⟩:=au;rw [oW] at he;by_cases zv:u=t
  . rw [ape zv] at he;simp only [ao4] at he;subst zv;cases ok with
    | true=>
      simp only [apc] at he;subst he;refine ⟨.tuple #[Y,.bool true],?_,by simp only [Rel,bI];exact ⟨_,rfl,_,_,rfl,hb,_,_,rfl,rfl,rfl⟩⟩;simp only [Instr.typeAssert,Sem.run_bind,hu,Result.andThen_ok];cases cB:aS.bw<;>first
       | exact absurd cB (vp _)
       | (simp only [apd];rfl)
    | false=>
      simp only [apg] at he;subst he;refine ⟨Y,?_,hb⟩;simp only [Instr.typeAssert,Sem.run_bind,hu,Result.andThen_ok];cases cB:aS.bw<;>first
       | exact absurd cB (vp _)
       | (simp only [apd];rfl)
  . rw [ao_ zv] at he;cases ok with
    | false=>cases he
    | true=>
      simp only [apc] at he;cases bN:aS.zero with
      | none=>rw [bN] at he;cases he
      | some z=>
        rw [bN] at he;simp only [ao4] at he;subst he;obtain ⟨cG,cZ,z2⟩:=zero z bN;refine ⟨.tuple #[cG,.bool false],?_,by simp only [Rel,bI];exact ⟨_,rfl,_,_,rfl,z2,_,_,rfl,rfl,rfl⟩⟩;simp only [Instr.typeAssert,Sem.run_bind,hu,Result.andThen_ok];cases cB:aS.bw<;>first
         | exact absurd cB (vp _)
         | (simp only [ao_ zv,apd,Sem.run_bind,cZ,Result.andThen_ok];rfl)
 case nilIface=>
  simp only [Rel] at au;subst au;cases ok with
  | false=>cases he
  | true=>
    simp only [apc] at he;cases bN:aS.zero with
    | none=>rw [bN] at he;cases he
    | some z=>
      rw [bN] at he;simp only [ao4] at he;subst he;obtain ⟨cG,cZ,z2⟩:=zero z bN;refine ⟨.tuple #[cG,.bool false],?_,by simp only [Rel,bI];exact ⟨_,rfl,_,_,rfl,z2,_,_,rfl,rfl,rfl⟩⟩;simp only [Instr.typeAssert,Sem.run_bind,hu,Result.andThen_ok];cases cB:aS.bw<;>first
       | exact absurd cB (vp _)
       | (simp only [apd,Sem.run_bind,cZ,Result.andThen_ok];rfl)
def iG (P:Program) (call:gA):Prop:=∀f args h v af,call f args h=.val v af->True
theorem ZP {rd:Option Nat} {aB:Fr} {E:Env} {h af:ah} {w:World} {call:gA} (cP:hn P) (fL:iv P call) (h0:iG P call) {o:Oper} {aK:Nat} {r:c4} {a:Act} {v:V}
 (he:(hR P o).run call r h=.val v af) (k:RegRel0 E aK r a) (s:bE aB E h w) {K:Act->World->Prop} {Q:Exit->Act->World->Prop}
 (ey:∀aw x w',E.le aw->Rel aw v x->bE aB aw af w'->K (a.put o.dst x) w'):o.wpIn (aq rd) 0 P a w K Q:=by
 obtain ⟨dst,op,type,pos,after,guard⟩:=o;cases op<;>simp only [hR] at he<;>try (simp [eN.none] at he;done)
 case move x=>
  simp only [bk.val.injEq] at he;obtain ⟨rfl,rfl⟩:=he;exact h' (m:=pure (a.eval x)) rfl (ep.plain s rfl (fa k x)) ey
 case assign x=>
  simp only [bk.val.injEq] at he;obtain ⟨rfl,rfl⟩:=he;exact h' (m:=pure (a.eval x)) rfl (ep.plain s rfl (fa k x)) ey
 case pick c x y=>
  have ax:=fa k c;generalize (dc c).run r=ev at he ax;cases ev<;>simp only at he<;>try (cases he;done)
  rename_i t;simp only [bk.val.injEq] at he;obtain ⟨rfl,rfl⟩:=he;simp only [Rel] at ax;refine h' (m:=do pure (if <-asBool (a.eval c) then a.eval x else a.eval y)) (by simp only [execOp,bind_assoc,pure_bind]) (ep.plain (Z:=if t then a.eval x else a.eval y) s ?_ ?_) ey
  . rw [ax];rfl
  . cases t
    . exact fa k y
    . exact fa k x
 case alloc t=>
  cases az:bh P t with
  | none=>rw [az] at he;simp [eN.none] at he
  | some aS=>
    rw [az] at he;simp only at he;cases bN:aS.zero with
    | none=>rw [bN] at he;simp [eN.none] at he
    | some z=>
      rw [bN] at he;simp only at he;cases aF:h5 h z.cells with
      | none=>rw [aF] at he;cases he
      | some ae=>
        rw [aF] at he;simp only [jh,bk.val.injEq] at he;obtain ⟨rfl,rfl⟩:=he;obtain ⟨x,au,qG,_⟩:=uT (P:=P) (E:=E) az bN w;obtain ⟨aw,g1,g2,g3,g4⟩:=Fc (P:=P) s qG aF t;have H2:(newRow t x.cells).run P w=.ok ⟨w.heap.size,0,none⟩ {w with heap:=w.heap.push (.cells x.cells t)}:=by simpa using g3
        have H3:bE aB aw ae {w with heap:=w.heap.push (.cells x.cells t)}:=by simpa using g4
        exact h' (m:=Instr.alloc t true (.tuple #[])) rfl ⟨.pointer (some ⟨w.heap.size,0,none⟩),_,aw,by simp only [Instr.alloc,Sem.run_bind,au,Result.andThen_ok,newVar,H2,Sem.run_pure],g1,by simp only [Rel];exact ⟨_,g2,by simp⟩,H3⟩ ey
 case box t x=>
  obtain ⟨ay,he⟩:=n2 he;cases aF:h5 h ((dc x).run r).cells with
  | none=>rw [aF] at he;cases he
  | some ae=>
    rw [aF] at he;simp only [jh,bk.val.injEq] at he;obtain ⟨rfl,rfl⟩:=he;have aH:=(fa k x).cells (fun e=>by rw [e] at ay;cases ay);obtain ⟨aw,g1,g2,g3,g4⟩:=Fc (P:=P) s aH aF t;have H2:(newRow t (a.eval x).cells).run P w=.ok ⟨w.heap.size,0,none⟩ {w with heap:=w.heap.push (.cells (a.eval x).cells t)}:=by simpa using g3
    have H3:bE aB aw ae {w with heap:=w.heap.push (.cells (a.eval x).cells t)}:=by simpa using g4
    exact h' (m:=Instr.box t (a.eval x)) rfl ⟨.pointer (some ⟨w.heap.size,0,none⟩),_,aw,by simp only [Instr.box,Sem.run_bind,newVar,H2,Result.andThen_ok,Sem.run_pure],g1,by simp only [Rel];exact ⟨_,g2,by simp⟩,H3⟩ ey
 case build t bP=>
  obtain ⟨fr,rfl⟩:=bk.kd he;clear he;obtain ⟨Z,hB,c1⟩:=WL (P:=P) (Fs k bP.toList) fr w;refine h' (m:=Instr.build t (bP.map fun (i,x)=>(i,a.eval x))) rfl (ep.plain (Z:=Z) s ?_ c1) ey;rw [Kq];exact hB
 case buildSlice t n bP=>
  refine h' (m:=Instr.buildSlice t n (bP.map fun (i,x)=>(i,a.eval x))) rfl ?_ ey;rw [Kq];exact WN s (Fs k bP.toList) he
 case load t x=>
  obtain ⟨fr,rfl⟩:=bk.kd he;clear he;obtain ⟨Y,hb,c1,_⟩:=Rw (P:=P) s (fa k x) fr;exact h' (m:=Instr.loadAt t (a.eval x)) rfl (ep.plain s hb c1) ey
 case store t x y=>
  cases eL:(uD P t).run h ((dc x).run r) ((dc y).run r) with
  | none=>rw [eL] at he;cases he
  | some ae=>
    rw [eL] at he;simp only [jh,bk.val.injEq] at he;obtain ⟨rfl,rfl⟩:=he;obtain ⟨w',eT,l8⟩:=alJ (P:=P) s (fa k x) (fa k y) eL;refine ⟨fun _ _=>trivial,?_⟩;rw [r5 (by intro c h;cases h)];have:execOp a.eval ⟨dst,.store t x y,type,pos,after,guard⟩=(do Instr.storeAt t (a.eval x) (a.eval y);pure .skip):=rfl;rw [this,Sem.run_bind,eT];exact ey E undef w' (Env.le.refl E) (by simp [Rel]) l8
 case nilCheck x=>
  obtain ⟨fr,rfl⟩:=bk.kd he;clear he;have au:=fa k x;generalize (dc x).run r=yi at fr au
  have gb:∀X,Rel E yi X->(match X with
   | .pointer none | .nilIface | .nilFunc=>(runtimePanic .nilDeref:Sem Next)
   | .func (.method name) first captured=>
     match (first[0]? :Option Value) with
     | some .nilIface=>runtimePanic .nilDeref
     | some (.iface t w)=>do
       if (<-nilAhead ((<-program).types.size+Made.depth) t w name) != some false then
        unsupported (.noEntry "op/nilCheck.the method's receiver behind this interface value is a nil pointer, or cannot be seen to be none, and the arguments act or may panic (ledger 612)")
       pure (.value (.func (.method name) first captured))
     | _=>pure (.value (.func (.method name) first captured))
   | x=>pure (.value x))=pure (.value X)/\v=yi:=by
   intro X di;cases yi<;>simp only [vH] at fr<;>try (cases fr;done)
   all_goals simp only [ao4] at fr
   all_goals simp only [Rel] at di
   . obtain ⟨p,_,rfl⟩:=di;exact ⟨rfl,fr.symm⟩
   . rcases di with ⟨_,_,rfl,_⟩ | ⟨_,_,_,_,_,rfl⟩<;>exact ⟨rfl,fr.symm⟩
   . obtain ⟨p,rfl,_⟩:=di;exact ⟨rfl,fr.symm⟩
   . obtain ⟨_,p,rfl,_⟩:=di;exact ⟨rfl,fr.symm⟩
  obtain ⟨ae,rfl⟩:=gb _ au;exact h' (m:=pure (a.eval x)) (by simp only [execOp];rw [pure_bind];exact ae) (ep.plain s rfl au) ey
 case binOp op t x y u=>
  obtain ⟨fr,rfl⟩:=bk.kd he;clear he;obtain ⟨Z,hB,c1⟩:=Wx (P:=P) (ll:=x) (ln:=y) fr (fa k x) (fa k y) w;exact h' rfl (ep.plain s hB c1) ey
 case unOp op t x=>
  obtain ⟨fr,rfl⟩:=bk.kd he;clear he;obtain ⟨Z,hB,c1⟩:=amC (P:=P) fr (fa k x) w;exact h' (m:=Op.unary op (a.eval x)) rfl (ep.plain s hB c1) ey
 case convert t u x=>exact h' (m:=convert t u (a.eval x)) rfl (ZL s he (fa k x)) ey
 case makeInterface t x=>
  cases az:bh P t with
  | none=>rw [az] at he;simp [eN.none] at he
  | some aS=>
    rw [az] at he;simp only at he;cases ai:Nat.beq (gw aS.bw) 5 with
    | true=>rw [ai] at he;simp [eN.none] at he
    | false=>
      rw [ai] at he;simp only [apg,bk.val.injEq] at he;obtain ⟨rfl,rfl⟩:=he;refine h' (m:=Instr.makeInterface t (a.eval x)) rfl (ep.plain (Z:=.iface t (a.eval x)) s ?_ ?_) ey
      . have hu:=hf az w;simp only [Instr.makeInterface,Sem.run_bind,hu,Result.andThen_ok];cases cB:aS.bw<;>first
         | rfl
         | (rw [cB] at ai;simp [gw] at ai)
      . simp only [Rel];exact ⟨_,rfl,fa k x⟩
 case makeFunc fn first gL=>
  cases fn<;>simp only at he<;>try (simp [eN.none] at he;done)
  rename_i f;cases aE:(first.isEmpty&&!Nat.beq f eA) with
  | false=>
    rw [aE] at he;simp only [apg] at he;cases ob:(gL.isEmpty&&!Nat.beq f eA) with
    | false=>rw [ob] at he;simp [eN.none] at he
    | true=>
      rw [ob] at he;simp only [apc,bk.val.injEq] at he;obtain ⟨rfl,rfl⟩:=he;simp only [ao7,aqa] at ob;have IF:f≠eA:=fun e=>by rw [e] at ob;exact absurd ob.2 (by decide)
      have IC:gL=#[]:=by simpa using ob.1
      subst IC;refine h' (m:=Instr.makeFunc (.func f) (first.map a.eval) #[]) (by simp [execOp]) (ep.plain s rfl ?_) ey;simp only [Rel];exact ⟨IF,_,rfl,by rw [JM];simpa using su k first.toList⟩
  | true=>
    rw [aE] at he;simp only [apc,bk.val.injEq] at he;obtain ⟨rfl,rfl⟩:=he;simp only [ao7,aqa] at aE;have IF:f≠eA:=fun e=>by rw [e] at aE;exact absurd aE.2 (by decide)
    have IC:first=#[]:=by simpa using aE.1
    subst IC;refine h' (m:=Instr.makeFunc (.func f) #[] (gL.map a.eval)) (by simp [execOp]) (ep.plain s rfl ?_) ey;simp only [Rel];exact .inl ⟨IF,_,rfl,by rw [JM];simpa using su k gL.toList⟩
 case makeSlice t l c=>exact h' (m:=Instr.makeSlice t (a.eval l) (a.eval c)) rfl (ahf s (fa k l) (fa k c) he) ey
 case slice t x cW aM fG=>
  obtain ⟨fr,rfl⟩:=bk.kd he;clear he;obtain ⟨Z,hB,c1⟩:=alz (P:=P) fr (fa k x) (Fo k cW) (Fo k aM) (Fo k fG) w;exact h' (m:=Instr.sliceAt t (a.eval x) (cW.map a.eval) (aM.map a.eval) (fG.map a.eval)) rfl (ep.plain s hB c1) ey
 case fieldAddr t x i=>
  obtain ⟨fr,rfl⟩:=bk.kd he;clear he;obtain ⟨Z,hB,c1⟩:=abd (P:=P) fr (fa k x) w;exact h' (m:=Instr.fieldAt t (a.eval x) i) rfl (ep.plain s hB c1) ey
 case field t x i=>
  obtain ⟨fr,rfl⟩:=bk.kd he;clear he;obtain ⟨Z,hB,c1⟩:=abe (P:=P) fr (fa k x) w;exact h' (m:=Instr.field t (a.eval x) i) rfl (ep.plain s hB c1) ey
 case indexAddr t x i=>
  obtain ⟨fr,rfl⟩:=bk.kd he;clear he;obtain ⟨Z,hB,c1⟩:=aes (P:=P) fr (fa k x) (fa k i) w;exact h' (m:=Instr.indexAt t (a.eval x) (a.eval i)) rfl (ep.plain s hB c1) ey
 case index t x i=>
  obtain ⟨fr,rfl⟩:=bk.kd he;clear he;obtain ⟨Z,hB,c1⟩:=aeu (P:=P) fr (fa k x) (fa k i) w;exact h' (m:=Instr.index t (a.eval x) (a.eval i)) rfl (ep.plain s hB c1) ey
 case range t x=>exact h' (m:=Instr.range t (a.eval x)) rfl (akz s (fa k x) he) ey
 case next it zA=>
  cases zA with
  | true=>exact h' (m:=Instr.next (a.eval it) true type) rfl (ahN s (fa k it) he) ey
  | false=>exact h' (m:=Instr.next (a.eval it) false type) rfl (ahK s (fa k it) he) ey
 case entry it=>exact h' (m:=Instr.entry (a.eval it)) rfl (aaQ s (fa k it) he) ey
 case lookup t x y ok=>
  obtain ⟨fr,rfl⟩:=bk.kd he;clear he;obtain ⟨Z,hB,c1⟩:=ag_ (P:=P) s (fa k x) (fa k y) fr;exact h' (m:=Instr.lookup t (a.eval x) (a.eval y) ok) rfl (ep.plain s hB c1) ey
 case mapEntry t m y=>exact h' (m:=Instr.mapEntry t (a.eval m) (a.eval y)) rfl (ahh s (fa k m) (fa k y) he) ey
 case entryStore t m st x=>
  cases eL:Bs h ((dc m).run r) ((dc st).run r) ((dc x).run r) with
  | none=>rw [eL] at he;cases he
  | some ae=>
    rw [eL] at he;simp only [jh,bk.val.injEq] at he;obtain ⟨rfl,rfl⟩:=he;obtain ⟨w',eT,l8⟩:=aaP (P:=P) (t:=t) s (fa k m) (fa k st) (fa k x) eL;refine ⟨fun _ _=>trivial,?_⟩;rw [r5 (by intro c h;cases h)];have:execOp a.eval ⟨dst,.entryStore t m st x,type,pos,after,guard⟩=(do Instr.entryStore t (a.eval m) (a.eval st) (a.eval x);pure .skip):=rfl;rw [this,Sem.run_bind,eT];exact ey E undef w' (Env.le.refl E) (by simp [Rel]) l8
 case mapUpdate t m y x=>
  cases eL:(v7 P t).run h ((dc m).run r) ((dc y).run r) ((dc x).run r) with
  | none=>rw [eL] at he;cases he
  | some ae=>
    rw [eL] at he;simp only [jh,bk.val.injEq] at he;obtain ⟨rfl,rfl⟩:=he;obtain ⟨w',eT,l8⟩:=TP (P:=P) s (fa k m) (fa k y) (fa k x) eL;refine ⟨fun _ _=>trivial,?_⟩;rw [r5 (by intro c h;cases h)];have:execOp a.eval ⟨dst,.mapUpdate t m y x,type,pos,after,guard⟩=(do Instr.mapUpdate t (a.eval m) (a.eval y) (a.eval x);pure .skip):=rfl;rw [this,Sem.run_bind,eT];exact ey E undef w' (Env.le.refl E) (by simp [Rel]) l8
 case insert t m y x=>
  cases eL:(v7 P t).run h ((dc m).run r) ((dc y).run r) ((dc x).run r) with
  | none=>rw [eL] at he;cases he
  | some ae=>
    rw [eL] at he;simp only [jh,bk.val.injEq] at he;obtain ⟨rfl,rfl⟩:=he;obtain ⟨w',eT,l8⟩:=TP (P:=P) s (fa k m) (fa k y) (fa k x) eL;refine ⟨fun _ _=>trivial,?_⟩;rw [r5 (by intro c h;cases h)];have:execOp a.eval ⟨dst,.insert t m y x,type,pos,after,guard⟩=(do Instr.mapUpdate t (a.eval m) (a.eval y) (a.eval x);pure .skip):=rfl;rw [this,Sem.run_bind,eT];exact ey E undef w' (Env.le.refl E) (by simp [Rel]) l8
 case makeMap t x=>exact h' (m:=Instr.makeMap t (x.map a.eval)) rfl (ahe s (Fo k x) he) ey
 case panic x=>
  exfalso;unfold z' at he
  split at he<;>cases he
 case typeAssert x wa t ok=>
  cases az:bh P t with
  | none=>rw [az] at he;simp [eN.none] at he
  | some aS=>
    rw [az] at he;simp only at he;cases ai:Nat.beq (gw aS.bw) 5 with
    | true=>rw [ai] at he;simp [eN.none] at he
    | false=>
      rw [ai] at he;simp only [apg] at he;obtain ⟨fr,rfl⟩:=bk.kd he;clear he;obtain ⟨Z,hB,c1⟩:=Wc az ai (wa:=wa) (fa k x) fr w;exact h' (m:=Instr.typeAssert (a.eval x) wa t ok) rfl (ep.plain s hB c1) ey
 case extract x i=>
  have au:=fa k x;generalize (dc x).run r=yi at he au;cases yi<;>simp only at he<;>try (cases he;done)
  obtain ⟨fr,rfl⟩:=bk.kd he;clear he;simp only [Rel] at au;obtain ⟨arr,di,aH⟩:=au;obtain ⟨y,bm,c1⟩:=aH.get i v fr;refine h' (m:=Instr.extract (a.eval x) i) rfl (ep.plain (Z:=y) s ?_ c1) ey;rw [di];have:arr[i]? =some y:=by simpa using bm
  simp only [Instr.extract,this,Sem.run_pure]
 case call c=>
  obtain ⟨callee,args,types⟩:=c;cases callee with
  | invoke _ _=>simp [si,eN.none] at he
  | builtin b=>
    simp only [si] at he;obtain ⟨cs,jF⟩:∃cs,execOp a.eval ⟨dst,.call ⟨.builtin b,args,types⟩,type,pos,after,guard⟩=Go.builtin b types type cs (args.map a.eval):=by simp only [execOp,resolve,pure_bind,invoke];exact ⟨_,rfl⟩
    obtain ⟨m,hm,ay⟩:=WQ (P:=P) (ty:=type) (cs:=cs) s (su k args.toList) he;refine h' (m:=m) ?_ ay ey;rw [jF,<-hm,JM]
  | value f=>
    simp only [si] at he;have aE:=fa k f;generalize ad5:(dc f).run r=Db at he aE;cases Db<;>simp only [V.x0] at he<;>try (cases he;done)
    rotate_left
    . rename_i g cs;simp only [Rel] at aE;refine ⟨fun _ _=>trivial,?_⟩;rw [r5 (by intro c h;cases h)];obtain ⟨ay,first,di,aH⟩:=aE;have tG:=bI.append aH (su k args.toList);have pQ:=fL.fn _ _ _ _ _ _ ay he E w _ tG s;have hex:execOp a.eval ⟨dst,.call ⟨.value f,args,types⟩,type,pos,after,guard⟩=callFunc g (first++args.map a.eval):=by
       simp only [execOp,resolve,di,Deferred.ofValue,pure_bind,invoke];simp
      have e:first++args.map a.eval=(first.toList++args.toList.map a.eval).toArray:=by apply aqq;simp
      rw [hex,e];rcases pQ with ⟨⟨fn,l4,ai⟩,ax⟩ | ⟨aw,x,w',U,ao,av,aC⟩
      case inr=>
       rw [U];exact ey aw x w' ao av aC
      rw [vT cP l4 ai];refine ⟨fun h=>by simp at h,sj.2 (ax.mono fun e w' aI=>?_)⟩;obtain ⟨aw,x,rfl,ao,av,aC⟩:=aI;exact ey aw x w' ao av aC
    rename_i g cs;simp only [Rel] at aE;refine ⟨fun _ _=>trivial,?_⟩;rw [r5 (by intro c h;cases h)];rcases aE with ⟨ay,gL,di,aH⟩ | ⟨ay,b,p,jF,aG,di⟩
    . have tG:=(su k args.toList).append aH;have pQ:=fL.fn _ _ _ _ _ _ ay he E w _ tG s;have hex:execOp a.eval ⟨dst,.call ⟨.value f,args,types⟩,type,pos,after,guard⟩=callFunc g (args.map a.eval++gL):=by
       simp only [execOp,resolve,di,Deferred.ofValue,pure_bind,invoke];simp
      have e:args.map a.eval++gL=(args.toList.map a.eval++gL.toList).toArray:=by apply aqq;simp
      rw [hex,e];rcases pQ with ⟨⟨fn,l4,ai⟩,ax⟩ | ⟨aw,x,w',U,ao,av,aC⟩
      case inr=>
       rw [U];exact ey aw x w' ao av aC
      rw [vT cP l4 ai];refine ⟨fun h=>by simp at h,sj.2 (ax.mono fun e w' aI=>?_)⟩;obtain ⟨aw,x,rfl,ao,av,aC⟩:=aI;exact ey aw x w' ao av aC
    . subst ay jF;obtain ⟨HP,tmps,assign,body,ao,av⟩:=fL.anc _ _ _ _ _ _ he E w _ p (su k args.toList) s aG;have hex:execOp a.eval ⟨dst,.call ⟨.value f,args,types⟩,type,pos,after,guard⟩=Instr.yield p.bn (args.map a.eval):=by
       simp only [execOp,resolve,di,Deferred.ofValue,pure_bind,invoke];simp
      have e:args.map a.eval=(args.toList.map a.eval).toArray:=by apply aqq;simp
      rw [hex,e,ao];refine ⟨fun h=>by simp at h,RoundIn.mono av fun e w' aI=>?_⟩;obtain ⟨aw,x,rfl,cL,bf,bU⟩:=aI;exact ey aw x w' cL bf bU
end
section
variable {P:Program}
theorem PV {E:Env} {aK:Nat} {r:c4} {a:Act} (k:RegRel0 E aK r a) {all:Array Oper} {j:Nat} {g:Oper} {d:Nat} (cY:all[j]? =some g) (a_:g.dst=some d) (acH:d<aK) (w9:d<=top):
 (∀b,T.get .bad (an d) r=.bool b->yielded all a.tmps j=some b)/\(∀aj,T.get .bad (an d) r=.tuple aj->yielded all a.tmps j=none):=by
 have U:=k.cz d w9;have a1:d<a.tmps.size:=by rw [k.size];exact acH
 have he:a.tmps[d]? =some (a.tmps.getD d undef):=by simp [apw,a1]
 refine ⟨fun b ai=>?_,fun aj ai=>?_⟩
 . rw [ai] at U;simp only [Rel] at U;simp only [yielded,cY,Option.bind,a_,he,U]
 . rw [ai] at U;simp only [Rel] at U;obtain ⟨arr,U,_⟩:=U;simp only [yielded,cY,Option.bind,a_,he,U]
theorem ZN {rd:Option Nat} {aB:Fr} {E:Env} {h af:ah} {w:World} {call:gA} (cP:hn P) (fL:iv P call) {o:Oper} {aK:Nat} {r:c4} {a:Act} {v:V} (hm:nM o.op=true)
 (he:(hR P o).run call r h=.f' v af) (k:RegRel0 E aK r a) (s:bE aB E h w) {K:Act->World->Prop} {Q:Exit->Act->World->Prop}
 (b':∀aw x w',E.le aw->Rel aw v x->bE aB aw af w'->Q (.panic (nU x)) a w'):o.wpIn (aq rd) 0 P a w K Q:=by
 obtain ⟨dst,op,type,pos,after,guard⟩:=o;cases op<;>simp only [nM] at hm<;>try (cases hm;done)
 all_goals simp only [hR] at he
 case panic x=>
  have au:=fa k x;generalize (dc x).run r=yi at he au;unfold z' at he;cases yi<;>simp only at he<;>try (cases he;done)
  simp only [bk.f'.injEq] at he;obtain ⟨rfl,rfl⟩:=he;have Cf:=au;simp only [Rel] at au;obtain ⟨Y,di,hb⟩:=au;refine ⟨fun _ _=>trivial,?_⟩;rw [r5 (by intro c h;cases h)];have hex:(execOp a.eval ⟨dst,.panic x,type,pos,after,guard⟩).run P w=.halt (.panic (a.eval x)) w:=by simp only [execOp,di,Instr.panic,Sem.run_bind];rfl
  rw [hex];exact b' E _ w (Env.le.refl E) Cf s
 case call c=>
  obtain ⟨callee,args,types⟩:=c;cases callee<;>simp only at hm<;>try (cases hm;done)
  rename_i f;simp only [si] at he;have aE:=fa k f;generalize ad5:(dc f).run r=Db at he aE;cases Db<;>simp only [V.x0] at he<;>try (cases he;done)
  rotate_left
  . rename_i g cs;simp only [Rel] at aE;refine ⟨fun _ _=>trivial,?_⟩;rw [r5 (by intro c h;cases h)];obtain ⟨ay,first,di,aH⟩:=aE;have tG:=bI.append aH (su k args.toList);obtain ⟨⟨fn,l4,ai⟩,ax⟩:=fL.f' _ _ _ _ _ _ ay he E w _ tG s;have hex:execOp a.eval ⟨dst,.call ⟨.value f,args,types⟩,type,pos,after,guard⟩=callFunc g (first++args.map a.eval):=by
     simp only [execOp,resolve,di,Deferred.ofValue,pure_bind,invoke];simp
    have e:first++args.map a.eval=(first.toList++args.toList.map a.eval).toArray:=by apply aqq;simp
    rw [hex,e,vT cP l4 ai];refine ⟨fun h=>by simp at h,sj.2 (ax.mono fun e w' aI=>?_)⟩;obtain ⟨aw,x,rfl,ao,av,aC⟩:=aI;exact b' aw x w' ao av aC
  rename_i g cs;simp only [Rel] at aE;refine ⟨fun _ _=>trivial,?_⟩;rw [r5 (by intro c h;cases h)];rcases aE with ⟨ay,gL,di,aH⟩ | ⟨ay,b,p,jF,aG,di⟩
  . have tG:=(su k args.toList).append aH;obtain ⟨⟨fn,l4,ai⟩,ax⟩:=fL.f' _ _ _ _ _ _ ay he E w _ tG s;have hex:execOp a.eval ⟨dst,.call ⟨.value f,args,types⟩,type,pos,after,guard⟩=callFunc g (args.map a.eval++gL):=by
     simp only [execOp,resolve,di,Deferred.ofValue,pure_bind,invoke];simp
    have e:args.map a.eval++gL=(args.toList.map a.eval++gL.toList).toArray:=by apply aqq;simp
    rw [hex,e,vT cP l4 ai];refine ⟨fun h=>by simp at h,sj.2 (ax.mono fun e w' aI=>?_)⟩;obtain ⟨aw,x,rfl,ao,av,aC⟩:=aI;exact b' aw x w' ao av aC
  . subst ay;exact absurd he (fL.ane _ _ _ _)
theorem pF.list {E:Env} {v:V} {ds:List Deferred} (k:pF E v ds):oI E v.list ds:=by
 cases v<;>first
  | exact k
end
theorem A' (m i:Nat):hI m i=m.testBit i:=by
 rw [Nat.testBit_eq_decide_div_mod_eq];unfold hI;have e:Nat.mod (Nat.shiftRight m i) 2=m / 2 ^ i % 2:=by show (m >>> i) % 2=_;rw [Nat.shiftRight_eq_div_pow]
 rw [e,apR,apz,apf]
theorem JN {fY:List Nat} {i:Nat}:∀{es:List Edge},hI (vF fY es) i=true->∃e ∈ es,wE e=true/\(e.on=i\/hI ((fY[e.on]?).getD 0) i=true)
 | [],h=>by simp [vF,A'] at h
 | e::es,h=>by
   simp only [vF] at h;cases ai:wE e with
   | false=>
     rw [ai] at h;obtain ⟨fk,ae,ag⟩:=JN (es:=es) h;exact ⟨fk,by simp [ae],ag⟩
   | true=>
     rw [ai] at h;simp only [apc,A'] at h;have af:((1 <<< e.on||| (fY[e.on]?).getD 0)||| vF fY es).testBit i=true:=h;rw [Nat.testBit_or,Nat.testBit_or,ap7,ap7] at af;rcases af with (ae | ae) | ae
     . refine ⟨e,by simp,ai,.inl ?_⟩;rw [Nat.testBit_shiftLeft] at ae;simp only [ao7,apf] at ae;have:=ae.2;rw [Nat.testBit_one_eq_true_iff_self_eq_zero] at this;omega
     . exact ⟨e,by simp,ai,.inr (by rw [A'];exact ae)⟩
     . rw [<-A'] at ae;obtain ⟨fk,ao,av⟩:=JN (es:=es) ae;exact ⟨fk,by simp [ao],av⟩
def r_ (ops:Array Oper) (L:Nat->Prop):Prop:=∀k o e,L k->ops[k]? =some o->e ∈ o.after.toList->wE e=true->L e.on
theorem CD {ops:Array Oper} {L:Nat->Prop} (BI:r_ ops L):∀(os:List Oper) (fY:List Nat),(∀j,os[j]? =ops[fY.length+j]?)->
 (∀k m i,fY[k]? =some m->hI m i=true->L k->L i)->∀k m i,(gm fY os)[k]? =some m->hI m i=true->L k->L i
 | [],fY,_,h,k,m,i,aD,ai,gN=>h k m i aD ai gN
 | o::os,fY,pd,h,k,m,i,aD,ai,gN=>by
   simp only [gm] at aD;refine CD BI os (fY++[vF fY o.after.toList]) (fun j=>?_) (fun k m i aD ai gN=>?_) k m i aD ai gN
   . have:=pd (j+1);simp only [apO] at this;rw [this];congr 1;simp;omega
   . by_cases a1:k<fY.length
     . rw [apC a1] at aD;exact h k m i aD ai gN
     . rw [apJ (by omega)] at aD;have BT:k-fY.length=0:=by
        cases bN:k-fY.length with
        | zero=>rfl
        | succ n=>rw [bN] at aD;simp at aD
       rw [BT] at aD;simp only [apj,ao4] at aD;subst aD;have ac8:k=fY.length:=by omega
       have bJ:ops[k]? =some o:=by have:=pd 0;simp only [apj,ap_] at this;rw [ac8];exact this.symm
       obtain ⟨e,he,Io,lB⟩:=JN ai;have PZ:=BI k o e gN bJ he Io;rcases lB with rfl | lB
       . exact PZ
       . cases hm:fY[e.on]? with
         | none=>rw [hm] at lB;simp [A'] at lB
         | some dv=>rw [hm] at lB;exact h e.on dv i hm lB PZ
theorem uU {f:Nat->Nat->Oper->Bool}:∀{k:Nat} {ms:List Nat} {os:List Oper},rb f k ms os=true->∀j o,os[j]? =some o->∃m,ms[j]? =some m/\f (k+j) m o=true
 | _,_,[],_,j,o,h=>by simp at h
 | _,[],_::_,h,_,_,_=>by cases h
 | k,m::ms,dT::os,h,j,o,bJ=>by
   simp only [rb,ao7] at h;cases j with
   | zero=>simp only [apj,ao4] at bJ;subst bJ;exact ⟨m,rfl,h.1⟩
   | succ j=>
     obtain ⟨dv,ae,ag⟩:=uU h.2 j o (by simpa using bJ);exact ⟨dv,by simpa using ae,by rw [show k + (j+1)=k+1+j from by omega];exact ag⟩
theorem LG {f:Nat->Nat->Oper->Bool}:∀{k:Nat} {ms:List Nat} {os:List Oper},ms.length=os.length->(∀j m o,ms[j]? =some m->os[j]? =some o->f (k+j) m o=true)->rb f k ms os=true
 | _,[],[],_,_=>rfl
 | _,[],_::_,h,_=>by simp at h
 | _,_::_,[],h,_=>by simp at h
 | k,m::ms,o::os,h,aE=>by simp only [rb,ao7];refine ⟨aE 0 m o rfl rfl,LG (by simpa using h) fun j dv dT ae ag=>?_⟩;have:=aE (j+1) dv dT (by simpa using ae) (by simpa using ag);rw [show k+1+j=k + (j+1) from by omega];exact this
theorem JO:∀(os:List Oper) (fY:List Nat),(gm fY os).length=fY.length+os.length
 | [],fY=>rfl
 | o::os,fY=>by simp [gm,JO os];omega
section
variable {P:Program}
theorem OL {o:Oper} {call:gA} {r:c4} {h af:ah} {v:V} (aI:ij P o.op=false) (he:(hR P o).run call r h=.val v af):af=h:=by
 obtain ⟨dst,op,type,pos,after,guard⟩:=o;cases op<;>simp only [ij] at aI<;>try (cases aI;done)
 all_goals simp only [hR] at he
 case convert s d x=>
  unfold sl at he;cases al:bh P s with
  | none=>rw [al] at he;cases he
  | some vU=>
    cases a_:bh P d with
    | none=>rw [a_] at aI;cases aI
    | some qx=>
      rw [al,a_] at he;rw [a_] at aI;simp only at he aI;cases hu:qx.bw with
      | int k=>
        rw [hu] at he;obtain ⟨bZ,n,_,ae⟩:=uo he;simp only [bk.val.injEq] at ae;exact ae.2.symm
      | slice e=>rw [hu] at aI;cases aI
      | string=>
        rw [hu] at he;simp only at he
        have other:∀x:V,(match x with
         | .str s=>bk.val (.str s) h
         | .int _ n=>.val (.str (Utf8.encode n).data.toList) h
         | _=>.fail)=.val v af->af=h:=by
         intro x he;cases x<;>simp only at he<;>first
          | (cases he;done)
          | (simp only [bk.val.injEq] at he;exact he.2.symm)
        cases QI:vU.bw with
        | slice e=>
          rw [QI] at he;simp only at he;cases dd:bh P e with
          | none=>rw [dd] at he;cases he
          | some bp=>
            rw [dd] at he;simp only at he;have alN:∀b off len,vX b off len h=.val v af->af=h:=by
             intro b off len he;unfold vX at he;cases ay:h.get b<;>rw [ay] at he<;>simp only [c'.q7] at he<;>try (cases he;done)
             all_goals
              obtain ⟨_,ag⟩:=n2 he;cases ad0:qd (m_ _ off len)<;>rw [ad0] at ag<;>first
               | (cases ag;done)
               | (simp only [bk.val.injEq] at ag;exact ag.2.symm)
            cases fW:bp.bw with
            | int Cm=>
              rw [fW] at he;cases Cm<;>simp only at he<;>try (cases he;done)
              simp only [u7] at he;cases au:(dc x).run r<;>rw [au] at he<;>simp only at he<;>first
               | (cases he;done)
               | exact alN _ _ _ he
               | (simp only [bk.val.injEq] at he;exact he.2.symm)
            | _=>rw [fW] at he;cases he
        | _=>rw [QI] at he;exact other _ he
      | _=>rw [hu] at he;cases he
 case call c=>
  obtain ⟨callee,args,types⟩:=c;cases callee<;>simp only at aI<;>try (cases aI;done)
  rename_i b;simp only [si] at he;cases b<;>simp only at aI<;>try (cases aI;done)
  . simp only [sf] at he;cases gu:types.toList with
    | nil=>rw [gu] at he;simp [hP.none] at he
    | cons t dD=>
      cases dD with
      | cons _ _=>rw [gu] at he;simp [hP.none] at he
      | nil=>
        rw [gu] at he;simp only at he;cases az:bh P t with
        | none=>rw [az] at he;simp [hP.none] at he
        | some aS=>
          rw [az] at he;rw [gu] at aI;simp only [Jw,az] at aI;simp only [aI,apg] at he
          split at he
          . exact (bk.kd he).2
          . cases he
  . exact (bk.kd he).2
  . exact (bk.kd he).2
 case move=>simp only [bk.val.injEq] at he;exact he.2.symm
 case assign=>simp only [bk.val.injEq] at he;exact he.2.symm
 case pick c a b=>
  split at he
  . simp only [bk.val.injEq] at he;exact he.2.symm
  . cases he
 case makeFunc fn first gL=>
  cases fn<;>simp only at he<;>try (simp [eN.none] at he;done)
  rename_i f;cases aE:(first.isEmpty&&!Nat.beq f eA)<;>rw [aE] at he
  . simp only [apg] at he;cases ob:(gL.isEmpty&&!Nat.beq f eA)<;>rw [ob] at he
    . simp [eN.none] at he
    . simp only [apc,bk.val.injEq] at he;exact he.2.symm
  . simp only [apc,bk.val.injEq] at he;exact he.2.symm
 case typeAssert x wa t ok=>
  cases az:bh P t with
  | none=>rw [az] at he;simp [eN.none] at he
  | some aS=>
    rw [az] at he;simp only at he;cases ai:Nat.beq (gw aS.bw) 5<;>rw [ai] at he
    . exact (bk.kd he).2
    . simp [eN.none] at he
 case makeInterface t x=>
  cases az:bh P t with
  | none=>rw [az] at he;simp [eN.none] at he
  | some aS=>
    rw [az] at he;simp only at he;cases ai:Nat.beq (gw aS.bw) 5<;>rw [ai] at he
    . simp only [apg,bk.val.injEq] at he;exact he.2.symm
    . simp [eN.none] at he
 case extract x i=>
  split at he
  . exact (bk.kd he).2
  . cases he
 all_goals exact (bk.kd he).2
theorem bk.zY {h af:ah} {x:Option V} {v:V} (he:bk.of h x=.val v af) (H:ah):bk.of H x=.val v H:=by rw [(bk.kd he).1];rfl
theorem OK {o:Oper} {call:gA} {r:c4} {h af:ah} {v:V} (aI:ij P o.op=false) (aH:looks o.op=false) (he:(hR P o).run call r h=.val v af) (H:ah):(hR P o).run call r H=.val v H:=by
 obtain ⟨dst,op,type,pos,after,guard⟩:=o;cases op<;>simp only [ij] at aI<;>try (cases aI;done)
 all_goals simp only [looks] at aH<;>try (cases aH;done)
 all_goals simp only [hR] at he ⊢
 case call c=>
  obtain ⟨callee,args,types⟩:=c;cases callee<;>simp only at aI<;>try (cases aI;done)
  rename_i b;simp only [si] at he ⊢;cases b<;>simp only at aI<;>try (cases aI;done)
  . simp only [sf] at he ⊢;cases gu:types.toList with
    | nil=>rw [gu] at he;simp [hP.none] at he
    | cons t dD=>
      cases dD with
      | cons _ _=>rw [gu] at he;simp [hP.none] at he
      | nil=>
        rw [gu] at he;simp only at he ⊢;cases az:bh P t with
        | none=>rw [az] at he;simp [hP.none] at he
        | some aS=>
          rw [az] at he;rw [gu] at aI;simp only [Jw,az] at aI;simp only [aI,apg] at he ⊢
          split at he
          . exact bk.zY he H
          . cases he
  . exact bk.zY he H
  . exact bk.zY he H
 case move=>simp only [bk.val.injEq] at he;rw [he.1]
 case assign=>simp only [bk.val.injEq] at he;rw [he.1]
 case pick c a b=>
  split at he
  . simp only [bk.val.injEq] at he;rw [he.1]
  . cases he
 case makeFunc fn first gL=>
  cases fn<;>simp only at he ⊢<;>try (simp [eN.none] at he;done)
  rename_i f;cases aE:(first.isEmpty&&!Nat.beq f eA)<;>rw [aE] at he
  . simp only [apg] at he ⊢;cases ob:(gL.isEmpty&&!Nat.beq f eA)<;>rw [ob] at he
    . simp [eN.none] at he
    . simp only [apc,bk.val.injEq] at he ⊢;exact ⟨he.1,trivial⟩
  . simp only [apc,bk.val.injEq] at he ⊢;exact ⟨he.1,trivial⟩
 case typeAssert x wa t ok=>
  cases az:bh P t with
  | none=>rw [az] at he;simp [eN.none] at he
  | some aS=>
    rw [az] at he;simp only at he ⊢;cases ai:Nat.beq (gw aS.bw) 5<;>rw [ai] at he
    . exact bk.zY he H
    . simp [eN.none] at he
 case makeInterface t x=>
  cases az:bh P t with
  | none=>rw [az] at he;simp [eN.none] at he
  | some aS=>
    rw [az] at he;simp only at he ⊢;cases ai:Nat.beq (gw aS.bw) 5<;>rw [ai] at he
    . simp only [apg,bk.val.injEq] at he ⊢;exact ⟨he.1,trivial⟩
    . simp [eN.none] at he
 case extract x i=>
  split at he
  . exact bk.zY he H
  . cases he
 all_goals exact bk.zY he H
end
section
variable {P:Program}
def GC (P:Program) (E:Env) (m:Sem Value) (v:V) (h af:ah):Prop:=
 ∃k,af=h.new k/\True/\∀w,∃X qX,m.run P w=.ok X {w with heap:=w.heap.push qX}/\
  ∀aw,E.le aw->aw (an h.next)=some ⟨w.heap.size,0,0⟩->Rel aw v X/\∀B,B<=w.heap.size->jm B aw {w with heap:=w.heap.push qX} (an h.next) k
theorem Fb {E:Env} {h af:ah} {aj:List V} {l:List Value} (aH:bI E aj l) (he:h5 h aj=some af) (t:TypeId):
 ∃k,af=h.new k/\True/\∀w,(newRow t l.toArray).run P w=.ok ⟨w.heap.size,0,none⟩ {w with heap:=w.heap.push (.cells l.toArray t)}/\
  ∀aw,E.le aw->aw (an h.next)=some ⟨w.heap.size,0,0⟩->∀B,B<=w.heap.size->jm B aw {w with heap:=w.heap.push (.cells l.toArray t)} (an h.next) k:=by
 unfold h5 at he;obtain ⟨ax,he⟩:=fV he;rw [apn] at ax;cases he;refine ⟨_,rfl,trivial,fun w=>⟨by simp [newRow],fun aw hle fh B cj=>?_⟩⟩;have:=HY (bI.mono hle _ _ aH) ax #[]
 rw [Array.append_empty] at this;exact ⟨ax,_,_,t,(0,0),fh,cj,by simp,.inr (ao1 _),fun _=>rfl,fun h=>absurd rfl h,this⟩
theorem WO {E:Env} {h af:ah} {t:TypeId} {n:Nat} {bP:List (Nat × V)} {mh:List (Nat × Value)} {v:V} (aG:ti E bP mh) (he:(wF P t n).run bP h=.val v af):
 GC P E (Instr.buildSlice t n mh.toArray) v h af:=by
 unfold wF at he;cases az:bh P t with
 | none=>rw [az] at he;cases he
 | some aS=>
   rw [az] at he;simp only at he;have hu:=hf az;cases cB:aS.bw with
   | slice e=>
     rw [cB] at he hu;simp only at he;cases dd:bh P e with
     | none=>rw [dd] at he;cases he
     | some bp=>
       rw [dd] at he;simp only at he;cases bN:bp.zero with
       | none=>rw [bN] at he;cases he
       | some z=>
         rw [bN] at he;simp only at he;cases ax:(Nat.ble (n * bp.size) 1000000&&Nat.beq z.cells.length bp.size) with
         | false=>rw [ax] at he;cases he
         | true=>
           rw [ax] at he;simp only [apc] at he;simp only [ao7,apn,apz] at ax;cases aE:o3 (fun i=>some (i * bp.size,bp.size)) (kV z.cells n) bP with
           | none=>rw [aE] at he;cases he
           | some cs=>
             rw [aE] at he;simp only at he;cases aF:h5 h cs with
             | none=>rw [aF] at he;cases he
             | some ae=>
               rw [aF] at he;simp only [bk.val.injEq] at he;obtain ⟨rfl,rfl⟩:=he;obtain ⟨x,au,qG,qH⟩:=uT (P:=P) (E:=E) dd bN ⟨#[],fun _ _=>0,0,default,#[]⟩;have tZ:x.cells.size=bp.size:=by rw [qH,ax.2]
               have tU:=Ad qG n;rw [tZ] at tU;obtain ⟨b,jQ,pP⟩:=BA (a:=(Array.range (n * bp.size)).map (x.cells[· % x.cells.size]!)) aG (by rw [tZ];exact tU) aE;obtain ⟨k,g1,g2,g3⟩:=Fb (P:=P) pP aF e;refine ⟨k,g1,g2,fun w=>⟨.slice (some ⟨w.heap.size,0,none⟩) n n,.cells b e,?_,fun aw hle fh=>⟨?_,?_⟩⟩⟩
               . have xe:¬16777216<n * bp.size:=by omega
                 have kt:(newRow e b).run P w=.ok ⟨w.heap.size,0,none⟩ {w with heap:=w.heap.push (.cells b e)}:=by simpa using (g3 w).1
                 by_cases aL:n * bp.size=0
                 . have Il:Instr.fill (fun i=>some (i * bp.size,bp.size)) ((Array.range (n * bp.size)).map ((#[]:Array Value)[· % 0]!)) mh=some b:=by
                    have aP:(Array.range (n * bp.size)).map ((#[]:Array Value)[· % 0]!)=(Array.range (n * bp.size)).map (x.cells[· % x.cells.size]!):=by rw [aL];simp
                    rw [aP];exact jQ
                   have Im:Instr.fill (fun i=>some (i * bp.size,bp.size)) ((Array.range (n * bp.size)).map (fun x=>(#[]:Array Value)[x % (#[]:Array Value).size]!)) mh=some b:=Il;simp only [Instr.buildSlice,Sem.run_bind,hu,Result.andThen_ok,lQ dd,Sem.run_ite];rw [ao_ xe];simp only [Sem.run_pure,Result.andThen_ok,ape aL];rw [Im];simp only [Sem.run_bind,kt,Result.andThen_ok,Sem.run_pure]
                 . simp only [Instr.buildSlice,Sem.run_bind,hu,Result.andThen_ok,lQ dd,Sem.run_ite];rw [ao_ xe];simp only [Sem.run_pure,Result.andThen_ok,ao_ aL,au];rw [jQ];simp only [Sem.run_bind,kt,Result.andThen_ok,Sem.run_pure]
               . simp only [Rel];exact ⟨_,fh,ao1 _,by simp⟩
               . simpa using (g3 w).2 aw hle fh
   | _=>rw [cB] at he;cases he
theorem ahg {E:Env} {h af:ah} {t:TypeId} {x y v:V} {X Y:Value} (au:Rel E x X) (bm:Rel E y Y) (he:(xI P t).run x y h=.val v af):
 GC P E (Instr.makeSlice t X Y) v h af:=by
 unfold xI at he;cases az:bh P t with
 | none=>rw [az] at he;cases he
 | some aS=>
   rw [az] at he;simp only at he;have hu:=hf az;cases cB:aS.bw with
   | slice e=>
     rw [cB] at he hu;simp only at he;cases dd:bh P e with
     | none=>rw [dd] at he;cases he
     | some bp=>
       rw [dd] at he;simp only at he;cases bN:bp.zero with
       | none=>rw [bN] at he;cases he
       | some z=>
         rw [bN] at he;simp only at he;cases w5:Nat.ble bp.bytes 4096 with
         | false=>rw [w5] at he;cases he
         | true=>
           rw [w5] at he;simp only [apc,zO] at he;obtain ⟨dr,l,rfl,zd⟩:=uo he;obtain ⟨dZ,c,rfl,fr⟩:=uo zd;have:=au.kx;subst this;have:=bm.kx;subst this;obtain ⟨ax,rH⟩:=n2 fr;simp only [ao7,qN,apf,apz] at ax;obtain ⟨⟨aL,ae,ag⟩,ar⟩:=ax;rw [apn] at w5;cases aF:h5 h (kV z.cells c.toNat) with
           | none=>rw [aF] at rH;cases rH
           | some bM=>
             rw [aF] at rH;simp only [bk.val.injEq] at rH;obtain ⟨rfl,rfl⟩:=rH;obtain ⟨ny,xv,qG,qH⟩:=uT (P:=P) (E:=E) dd bN ⟨#[],fun _ _=>0,0,default,#[]⟩;have tZ:ny.cells.size=bp.size:=by rw [qH,ar]
             have tU:=Ad qG c.toNat;obtain ⟨k,g1,g2,g3⟩:=Fb (P:=P) tU aF e;have ER:IntKind.i64.wrap l=l:=by simp only [IntKind.wrap,IntKind.bits,IntKind.signed];simp;omega
             have Jk:IntKind.i64.wrap c=c:=by simp only [IntKind.wrap,IntKind.bits,IntKind.signed];simp;omega
             have hmul:(bp.bytes:Int) * c<=4096 * 1000000:=by
              have ai:(bp.bytes:Int)<=4096:=by omega
              have:=Int.mul_le_mul_of_nonneg_right (c:=c) ai (by omega);omega
             refine ⟨k,g1,g2,fun w=>?_⟩;obtain ⟨i,aM,sD⟩:=FT (P:=P) dd w;refine ⟨.slice (some ⟨w.heap.size,0,none⟩) l.toNat c.toNat,_,?_,fun aw hle fh=>⟨?_,(g3 w).2 aw hle fh⟩⟩
             . have kt:=(g3 w).1;simp only [ap1] at kt;have ch:¬c<0:=by omega
               have c8:¬((bp.bytes:Int) * c>281474976710656):=by omega
               have c3:¬l<0:=by omega
               have g_:¬l>c:=by omega
               have same:(if c.toNat * bp.size=0 then (Array.range (c.toNat * bp.size)).map (fun x=>(#[]:Array Value)[x % (#[]:Array Value).size]!) else (Array.range (c.toNat * bp.size)).map (fun x=>ny.cells[x % ny.cells.size]!))=
                (Array.range (c.toNat * ny.cells.size)).map (ny.cells[· % ny.cells.size]!):=by
                rw [tZ];by_cases aI:c.toNat * bp.size=0
                . rw [aI];simp
                . rw [ao_ aI]
               simp only [Instr.makeSlice,Sem.run_bind,hu,Result.andThen_ok,asInt,asIntOf,Sem.run_pure,aM,ER,Jk,sD];rw [ao_ (by simp only [ap7,apf,not_or];exact ⟨⟨⟨ch,c8⟩,c3⟩,g_⟩)];simp only [Result.andThen_ok,Sem.run_bind,run_askRoom,lQ dd];by_cases aI:c.toNat * bp.size=0
               . rw [ape aI] at same;rw [ape aI];simp only [Sem.run_pure,Result.andThen_ok,Sem.run_bind,same,kt,ap1]
               . rw [ao_ aI] at same;rw [ao_ aI];simp only [Sem.run_pure,Result.andThen_ok,Sem.run_bind,xv,same,kt,ap1]
             . simp only [Rel];exact ⟨_,fh,by omega,by simp⟩
   | _=>rw [cB] at he;cases he
theorem ZM {E:Env} {h af:ah} {call:gA} {o:Oper} {aK:Nat} {r:c4} {a:Act} {v:V} (b1:jv o=true) (he:(hR P o).run call r h=.val v af) (k:RegRel0 E aK r a):
 ∃m:Sem Value,execOp a.eval o=(do pure (.value (<-m)))/\GC P E m v h af:=by
 obtain ⟨dst,op,type,pos,after,guard⟩:=o;cases op<;>simp only [jv] at b1<;>try (cases b1;done)
 all_goals simp only [hR] at he
 case alloc t=>
  refine ⟨Instr.alloc t true (.tuple #[]),rfl,?_⟩;cases az:bh P t with
  | none=>rw [az] at he;simp [eN.none] at he
  | some aS=>
    rw [az] at he;simp only at he;cases bN:aS.zero with
    | none=>rw [bN] at he;simp [eN.none] at he
    | some z=>
      rw [bN] at he;simp only at he;cases aF:h5 h z.cells with
      | none=>rw [aF] at he;cases he
      | some ae=>
        rw [aF] at he;simp only [jh,bk.val.injEq] at he;obtain ⟨rfl,rfl⟩:=he;obtain ⟨x,au,qG,_⟩:=uT (P:=P) (E:=E) az bN ⟨#[],fun _ _=>0,0,default,#[]⟩;obtain ⟨dL,g1,g2,g3⟩:=Fb (P:=P) qG aF t;refine ⟨dL,g1,g2,fun w=>⟨.pointer (some ⟨w.heap.size,0,none⟩),.cells x.cells t,?_,fun aw hle fh=>⟨?_,?_⟩⟩⟩
        . have:=(g3 w).1;simp only [ap1] at this;simp only [Instr.alloc,Sem.run_bind,au,Result.andThen_ok,newVar,this,Sem.run_pure]
        . simp only [Rel];exact ⟨_,fh,by simp⟩
        . simpa using (g3 w).2 aw hle fh
 case box t x=>
  refine ⟨Instr.box t (a.eval x),rfl,?_⟩;obtain ⟨ay,he⟩:=n2 he;cases aF:h5 h ((dc x).run r).cells with
  | none=>rw [aF] at he;cases he
  | some ae=>
    rw [aF] at he;simp only [jh,bk.val.injEq] at he;obtain ⟨rfl,rfl⟩:=he;have aH:=(fa k x).cells (fun e=>by rw [e] at ay;cases ay);obtain ⟨dL,g1,g2,g3⟩:=Fb (P:=P) aH aF t;refine ⟨dL,g1,g2,fun w=>⟨.pointer (some ⟨w.heap.size,0,none⟩),.cells (a.eval x).cells t,?_,fun aw hle fh=>⟨?_,?_⟩⟩⟩
    . have:=(g3 w).1;simp only [ap1] at this;simp only [Instr.box,Sem.run_bind,newVar,this,Result.andThen_ok,Sem.run_pure]
    . simp only [Rel];exact ⟨_,fh,by simp⟩
    . simpa using (g3 w).2 aw hle fh
 case buildSlice t n bP=>
  refine ⟨Instr.buildSlice t n (bP.map fun (i,x)=>(i,a.eval x)),rfl,?_⟩;rw [Kq];exact WO (Fs k bP.toList) he
 case makeSlice t l c=>exact ⟨Instr.makeSlice t (a.eval l) (a.eval c),rfl,ahg (fa k l) (fa k c) he⟩
 case makeMap t x=>
  cases x with
  | some _=>cases b1
  | none=>
    refine ⟨Instr.makeMap t none,rfl,?_⟩;simp only [sY,zN] at he;cases az:bh P t with
    | none=>rw [az] at he;cases he
    | some aS=>
      rw [az] at he;simp only at he;cases ai:Nat.beq (gw aS.bw) 3 with
      | false=>rw [ai] at he;cases he
      | true=>
        rw [ai] at he;simp only [apc,vD,zW] at he;simp only [bk.val.injEq] at he;obtain ⟨rfl,rfl⟩:=he;refine ⟨_,rfl,trivial,fun w=>⟨.map (some w.heap.size),.map #[] 0,?_,fun aw hle fh=>⟨?_,fun B cj=>?_⟩⟩⟩
        . simp only [Instr.makeMap,Sem.run_bind,run_newObj,Result.andThen_ok,Sem.run_pure]
        . simp only [Rel];exact ⟨_,fh,rfl⟩
        . exact ⟨_,#[],fh,cj,by simp,rfl⟩
def Fr.hold (F:Fr) (b:aO) (k:c'):Fr:=⟨F.w,fun cp=>if cp=b then some k else F.kD cp⟩
def Fr.free (F:Fr) (b:aO):Fr:=⟨F.w,fun cp=>if cp=b then none else F.kD cp⟩
theorem bE.hold {F:Fr} {E:Env} {h:ah} {w:World} (s:bE F E h w) (k:c'):bE (F.hold (an h.next) k) E (h.new k) w:=by
 have fb:=s.fresh h.next (ao1 _)
 refine ⟨fun b ai=>?_,fun b bZ aD=>?_,fun b cp p p' ae ag aP bu k8=>?_,fun i aM=>s.fresh i (Nat.le_of_succ_le aM),s.frame,s.laid,fun b p n cs st ae aP=>s.base b p n cs st (by
  have fZ:an h.next≠b:=fun e=>by rw [<-e,fb] at aP;cases aP
  rwa [ah.k6,ao_ fZ] at ae) aP⟩
 . simp only [Fr.hold] at ai;by_cases aI:b=an h.next
   . rw [ape aI] at ai;cases ai
   . rw [ao_ aI] at ai;rw [ah.k6,ao_ (fun e=>aI e.symm)];exact s.bn b ai
 . simp only [Fr.hold] at aD;by_cases aI:b=an h.next
   . rw [ape aI] at aD;cases aD;exact ⟨by rw [ah.k6,ape aI.symm],by rw [aI];exact fb,h.next,Nat.lt_succ_self _,aI⟩
   . rw [ao_ aI] at aD;obtain ⟨ao,av,i,aC,bs⟩:=s.r0 b bZ aD;exact ⟨by rw [ah.k6,ao_ (fun e=>aI e.symm)];exact ao,av,i,Nat.lt_succ_of_lt aC,bs⟩
 . have fZ:an h.next≠b:=fun e=>by rw [<-e,fb] at aP;cases aP
   have lI:an h.next≠cp:=fun e=>by rw [<-e,fb] at bu;cases bu
   rw [ah.k6,ao_ fZ] at ae;rw [ah.k6,ao_ lI] at ag;exact s.inj b cp p p' ae ag aP bu k8
theorem bE.link {F:Fr} {E:Env} {h:ah} {w:World} (s:bE F E h w) {b:aO} {k:c'} (aG:F.kD b=some k) {o:Obj}
 (rQ:jm F.w.heap.size (E.put b ⟨w.heap.size,0,0⟩) {w with heap:=w.heap.push o} b k):
 E.le (E.put b ⟨w.heap.size,0,0⟩)/\bE (F.free b) (E.put b ⟨w.heap.size,0,0⟩) h {w with heap:=w.heap.push o}:=by
 obtain ⟨aD,fb,i0,IH,w3⟩:=s.r0 b k aG;have hle:E.le (E.put b ⟨w.heap.size,0,0⟩):=Env.p0 fb;have fh:E.put b ⟨w.heap.size,0,0⟩ b=some ⟨w.heap.size,0,0⟩:=by unfold Env.put;rw [ape rfl]
 have hold:∀cp,cp≠b->E.put b ⟨w.heap.size,0,0⟩ cp=E cp:=by intro cp ai;unfold Env.put;rw [ao_ ai]
 have w4:∀cp q,E cp=some q->(h.get cp)≠.dead->q.bn<w.heap.size:=by
  intro cp q aI a_;have ai:=s.at aI;cases ay:h.get cp with
  | dead=>exact absurd ay a_
  | view n cs=>rw [ay] at ai;obtain ⟨_,gi,c,el,cK,e,_,bM,_⟩:=ai;rw [e] at aI;cases aI;exact (ao5.1 bM).1
  | cells n cs dA st=>rw [ay] at ai;obtain ⟨_,gi,c,el,cK,e,_,bM,_⟩:=ai;rw [e] at aI;cases aI;exact (ao5.1 bM).1
  | iter st pos=>rw [ay] at ai;obtain ⟨gi,e,_,_,bM⟩:=ai;rw [e] at aI;cases aI;exact (ao5.1 bM).1
  | mp es clock=>rw [ay] at ai;obtain ⟨gi,a,e,_,bM,_⟩:=ai;rw [e] at aI;cases aI;exact (ao5.1 bM).1
  | hL l=>rw [ay] at ai;obtain ⟨gi,a,e,_,bM,_⟩:=ai;rw [e] at aI;cases aI;exact (ao5.1 bM).1
  | ie=>rw [ay] at ai;obtain ⟨gi,e,_,bM⟩:=ai;rw [e] at aI;cases aI;exact (ao5.1 bM).1
  | l_ es=>rw [ay] at ai;obtain ⟨gi,a,c,l,e,_,bM,_⟩:=ai;rw [e] at aI;cases aI;exact (ao5.1 bM).1
  | lf src since seen last=>rw [ay] at ai;obtain ⟨gi,m,a,e,_,_,bM,_⟩:=ai;rw [e] at aI;cases aI;exact (ao5.1 bM).1
 refine ⟨hle,fun cp iD=>?_,fun cp bZ jG=>?_,fun bW df ck c0 ae ag aP bu k8=>?_,fun i aM=>?_,⟨s.frame.os,s.frame.tape,s.frame.output,?_,fun j cY=>?_⟩,s.laid,fun bW ck n cs st ae aP=>by
  by_cases ch:bW=b
  . subst ch;rw [fh] at aP;cases aP;rfl
  . rw [hold bW ch] at aP;exact s.base _ _ _ _ _ ae aP⟩
 . by_cases aI:cp=b
   . subst aI;rw [aD];exact rQ
   . simp only [Fr.free,ao_ aI] at iD;have aL:=(s.bn cp iD).mono hle;by_cases a_:h.get cp=.dead
     . rw [a_];trivial
     . refine jm.h4 aL fun q qE=>?_;rw [hold cp aI] at qE;have:=w4 cp q qE a_;simp only [aqv];rw [ao_ (by omega)]
 . simp only [Fr.free] at jG;by_cases aI:cp=b
   . rw [ape aI] at jG;cases jG
   . rw [ao_ aI] at jG;obtain ⟨ao,av,aC⟩:=s.r0 cp bZ jG;exact ⟨ao,by rw [hold cp aI];exact av,aC⟩
 . by_cases ch:bW=b<;>by_cases c8:df=b
   . exact ch.trans c8.symm
   . subst ch;rw [fh] at aP;cases aP;rw [hold df c8] at bu;have:=w4 df c0 bu (fun e=>by rw [e] at ag;cases ag);simp only at k8;omega
   . subst c8;rw [fh] at bu;cases bu;rw [hold bW ch] at aP;have:=w4 bW ck aP (fun e=>by rw [e] at ae;cases ae);simp only at k8;omega
   . rw [hold bW ch] at aP;rw [hold df c8] at bu;exact s.inj bW df ck c0 ae ag aP bu k8
 . rw [hold _ (fun e=>?_)]
   . exact s.fresh i aM
   . rw [w3] at e;have:=nT e;omega
 . have:=s.frame.size;simp only [Array.size_push,Fr.free];omega
 . have ae:=s.frame.size;simp only [Fr.free,aqv];rw [ao_ (by simp only [Fr.free] at cY;omega)];exact s.frame.block j cY
end
section
variable {P:Program}
def fH (es:List iw) (fN:c4) (i:Nat):c4:=
 match es[i]? with
 | some e=>e.r
 | none=>fN
theorem Ev (e:iw) (es:List iw) (aE:ah) (i:Nat):dM (e::es) aE (i+1)=dM es aE i:=by simp [dM]
theorem FL (e:iw) (es:List iw) (fN:c4) (i:Nat):fH (e::es) fN (i+1)=fH es fN i:=by simp [fH]
theorem PQ {aK:Nat} {d:Option Nat} (a_:hr aK d=true) {r:c4} {v:V} {t:Nat} (az:t<=top):T.get .bad (an t) ((kE d).run r v)=if d=some t then v else T.get .bad (an t) r:=by
 cases d with
 | none=>simp [kE]
 | some d=>
   simp only [hr,ao7,apG,apn] at a_;simp only [kE,T.m',ao4];by_cases h:d=t
   . subst h;simp
   . rw [ao_ (fun e=>h (nT e)),ao_ h]
theorem nG {aK:Nat} {all:Array Oper} {o:Oper} {call:gA} {r:c4} {h af:ah} {v:V} (he:(eu P aK all o).run call r h=.val v af):hr aK o.dst=true/\kg (c6 all o)=true:=by
 unfold eu at he;cases ax:(hr aK o.dst&&kg (c6 all o)) with
 | false=>rw [ax] at he;simp [eN.none] at he
 | true=>simpa using ax
theorem F8 {r:c4} {rs:List Nat} (al:kg rs=true) {t:Nat} (az:t<=top):T.get .bad (an t) (gY r rs)=if t ∈ rs then T.get .bad (an t) r else .bad:=by
 induction rs with
 | nil=>simp [gY]
 | cons u rs b6=>
   simp only [kg,aqI,ao7,apn] at al;simp only [gY,T.m',apy];by_cases h:u=t
   . subst h;simp
   . rw [ao_ (fun e=>h (nT e)),b6 al.2];have af:¬t=u:=fun e=>h e.symm;simp [af]
theorem HG {aK:Nat} {all:Array Oper} {o:Oper} {call:gA} {r:c4} {h af:ah} {v:V} (he:(eu P aK all o).run call r h=.f' v af):hr aK o.dst=true/\kg (c6 all o)=true:=by
 unfold eu at he;cases ax:(hr aK o.dst&&kg (c6 all o)) with
 | false=>rw [ax] at he;simp [eN.none] at he
 | true=>simpa using ax
def GN (aB:Fr) (E:Env) (o:Oper) (a:Act) (K:Act->World->Prop) (Q:Exit->Act->World->Prop):bk->Prop
 | .val v af=>∀aw x w',E.le aw->Rel aw v x->bE aB aw af w'->K (a.put o.dst x) w'
 | .f' v af=>nM o.op=true/\∀aw x w',E.le aw->Rel aw v x->bE aB aw af w'->Q (.panic (nU x)) a w'
 | .fail=>False
theorem O4 {rd:Option Nat} {aB:Fr} {E:Env} {h:ah} {w:World} {call:gA} (cP:hn P) (fL:iv P call) (h0:iG P call) {all:Array Oper} {i:Nat} {o:Oper} (aM:all[i]? =some o) {aK:Nat} {r:c4} {a:Act}
 (ih:hr aK o.dst=true/\kg (c6 all o)=true) (rR:a.tmps.size=aK) (mE:∀t ∈ c6 all o,Rel E (T.get .bad (an t) r) (a.tmps.getD t undef)) (s:bE aB E h w)
 {K:Act->World->Prop} {Q:Exit->Act->World->Prop} (aG:GN aB E o a K Q ((eu P aK all o).run call r h)):wpOpIn (aq rd) 0 P all Q i K a w:=by
 obtain ⟨a_,al⟩:=ih
 have k:RegRel0 E aK (gY r (c6 all o)) a:=⟨rR,fun t az=>by
  rw [F8 al az];by_cases hm:t ∈ c6 all o
  . rw [ape hm];exact mE t hm
  . rw [ao_ hm];simp [Rel]⟩
 unfold eu at aG;rw [show (hr aK o.dst&&kg (c6 all o))=true from by rw [a_,al];rfl] at aG;simp only [apc] at aG;have wanted:GN aB E o a K Q ((hR P o).run call (gY r (c6 all o)) h)->Region.wanted o (yielded all a.tmps)=true->wpOpIn (aq rd) 0 P all Q i K a w:=by
  intro ae hw;simp only [wpOpIn,aM,hw,apd];cases U:(hR P o).run call (gY r (c6 all o)) h with
  | fail=>rw [U] at ae;exact ae.elim
  | val v af=>rw [U] at ae;exact ZP cP fL h0 U k s ae
  | f' v af=>rw [U] at ae;exact ZN cP fL ae.1 U k s ae.2
 have TO:GN aB E o a K Q (.val (.tuple []) h)->Region.wanted o (yielded all a.tmps)=false->wpOpIn (aq rd) 0 P all Q i K a w:=by intro ae hw;simp only [wpOpIn,aM,hw,ao2,apa];exact ⟨fun _ _=>trivial,ae E undef w (Env.le.refl E) (by simp only [Rel];exact ⟨#[],rfl,rfl⟩) s⟩
 cases ay:o.guard with
 | none=>
   rw [ay] at aG;exact wanted aG (by simp [Region.wanted,ay])
 | some ud=>
   obtain ⟨j,want⟩:=ud;rw [ay] at aG;simp only at aG;cases cY:all[j]? with
   | none=>rw [cY] at aG;exact aG.elim
   | some g=>
     rw [cY] at aG;simp only at aG;cases o':g.dst with
     | none=>rw [o'] at aG;exact aG.elim
     | some d=>
       rw [o'] at aG;simp only at aG;cases ax:(Nat.blt d aK&&Nat.ble d top) with
       | false=>rw [ax] at aG;exact aG.elim
       | true=>
         rw [ax] at aG;simp only [apc,lx,ru] at aG;simp only [ao7,apG,apn] at ax;obtain ⟨g1,g2⟩:=PV k cY o' ax.1 ax.2;cases b0:T.get .bad (an d) (gY r (c6 all o))<;>rw [b0] at aG<;>simp only at aG<;>try (exact aG.elim)
         . rename_i b;have bm:=g1 b b0;cases ai:(bif want then b else !b) with
           | true=>
             rw [ai] at aG;simp only [apc] at aG;refine wanted aG ?_;simp only [Region.wanted,ay,bm];cases want<;>cases b<;>simp_all
           | false=>
             rw [ai] at aG;simp only [apg] at aG;refine TO aG ?_;simp only [Region.wanted,ay,bm];cases want<;>cases b<;>simp_all
         . rename_i aj;have bm:=g2 aj b0;refine TO aG ?_;simp only [Region.wanted,ay,bm];rfl
theorem sq {rd:Option Nat} {aB:Fr} {E:Env} {h af:ah} {w:World} {call:gA} (cP:hn P) (fL:iv P call) (h0:iG P call) {all:Array Oper} {i:Nat} {o:Oper} (aM:all[i]? =some o) {aK:Nat} {r:c4} {a:Act} {v:V}
 (he:(eu P aK all o).run call r h=.val v af) (rR:a.tmps.size=aK) (mE:∀t ∈ c6 all o,Rel E (T.get .bad (an t) r) (a.tmps.getD t undef)) (s:bE aB E h w)
 {K:Act->World->Prop} {Q:Exit->Act->World->Prop} (ey:∀aw x w',E.le aw->Rel aw v x->bE aB aw af w'->K (a.put o.dst x) w'):wpOpIn (aq rd) 0 P all Q i K a w:=
 O4 cP fL h0 aM (nG he) rR mE s (by rw [he];exact ey)
theorem O3 {rd:Option Nat} {aB:Fr} {E:Env} {h af:ah} {w:World} {call:gA} (cP:hn P) (fL:iv P call) (h0:iG P call) {all:Array Oper} {i:Nat} {o:Oper} (aM:all[i]? =some o) {aK:Nat} {r:c4} {a:Act} {v:V}
 (he:(eu P aK all o).run call r h=.f' v af) (hm:nM o.op=true) (rR:a.tmps.size=aK) (mE:∀t ∈ c6 all o,Rel E (T.get .bad (an t) r) (a.tmps.getD t undef)) (s:bE aB E h w)
 {K:Act->World->Prop} {Q:Exit->Act->World->Prop} (b':∀aw x w',E.le aw->Rel aw v x->bE aB aw af w'->Q (.panic (nU x)) a w'):wpOpIn (aq rd) 0 P all Q i K a w:=
 O4 cP fL h0 aM (HG he) rR mE s (by rw [he];exact ⟨hm,b'⟩)
theorem Bo {aK:Nat} {all:Array Oper} {o:Oper} {call:gA} {r:c4} {h af:ah} {v:V} (aI:ij P o.op=false) (he:(eu P aK all o).run call r h=.val v af):
 af=h/\(looks o.op=false->∀H,(eu P aK all o).run call r H=.val v H):=by
 obtain ⟨a_,al⟩:=nG he;have ek:(hr aK o.dst&&kg (c6 all o))=true:=by rw [a_,al];rfl
 have key:eu P aK all o=(match o.guard with
  | none=>⟨lx none (hR P o) (c6 all o)⟩
  | some (j,want)=>match all[j]? with
    | some g=>match g.dst with
      | some d=>bif Nat.blt d aK&&Nat.ble d top then ⟨lx (some (ru (an d),want)) (hR P o) (c6 all o)⟩ else eN.none
      | none=>eN.none
    | none=>eN.none):=by
  unfold eu;rw [ek];rfl
 rw [key] at he ⊢;cases ay:o.guard with
 | none=>
   rw [ay] at he;exact ⟨OL aI he,fun aH H=>OK aI aH he H⟩
 | some ud=>
   obtain ⟨j,want⟩:=ud;rw [ay] at he;simp only at he ⊢;cases cY:all[j]? with
   | none=>rw [cY] at he;simp [eN.none] at he
   | some g=>
     rw [cY] at he;simp only at he ⊢;cases o':g.dst with
     | none=>rw [o'] at he;simp [eN.none] at he
     | some d=>
       rw [o'] at he;simp only at he ⊢;cases ax:(Nat.blt d aK&&Nat.ble d top) with
       | false=>rw [ax] at he;simp [eN.none] at he
       | true=>
         rw [ax] at he;simp only [apc,lx] at he ⊢;cases b0:(ru (an d)).run (gY r (c6 all o))<;>rw [b0] at he<;>simp only at he ⊢<;>try (cases he;done)
         . rename_i b;cases ai:(bif want then b else !b)<;>rw [ai] at he<;>simp only [apc,apg] at he ⊢
           . simp only [bk.val.injEq] at he ⊢;exact ⟨he.2.symm,fun _ H=>⟨he.1,trivial⟩⟩
           . exact ⟨OL aI he,fun aH H=>OK aI aH he H⟩
         . simp only [bk.val.injEq] at he ⊢;exact ⟨he.2.symm,fun _ H=>⟨he.1,trivial⟩⟩
theorem E4 {aJ:List Nat}:∀{l:List Oper} {i j:Nat} {o:Oper},l[j]? =some o->gl P o=true->posOf aJ (i+j) ∈ jI P aJ i l
 | [],_,j,o,h,_=>by simp at h
 | dT::os,i,j,o,h,he=>by
   simp only [jI];cases j with
   | zero=>
     simp only [apj,ao4] at h;subst h;rw [he];simp
   | succ j=>
     have:=E4 (aJ:=aJ) (i:=i+1) (by simpa using h) he;rw [show i + (j+1)=i+1+j from by omega];cases gl P dT with
     | true=>simp [this]
     | false=>exact this
theorem Rp {aJ:List Nat}:∀{l:List Oper} {i:Nat},i+l.length ∈ jI P aJ i l
 | [],_=>by simp [jI]
 | o::os,i=>by
   have:=Rp (aJ:=aJ) (l:=os) (i:=i+1);simp only [jI,ao9];rw [show i + (os.length+1)=i+1+os.length from by omega];cases gl P o with
   | true=>simp [this]
   | false=>exact this
theorem E5 {aJ:List Nat}:∀{l:List Oper} {i s:Nat},s ∈ jI P aJ i l->s=i+l.length\/∃j o,l[j]? =some o/\gl P o=true/\s=posOf aJ (i+j)
 | [],i,s,h=>by simp only [jI,ap2] at h;exact .inl (by simpa using h)
 | o::os,i,s,h=>by
   simp only [jI] at h;have rest:s ∈ jI P aJ (i+1) os->s=i + (o::os).length\/∃j dT,(o::os)[j]? =some dT/\gl P dT=true/\s=posOf aJ (i+j):=by
    intro h;rcases E5 h with h | ⟨j,dT,ae,ag,ar⟩
    . exact .inl (by simp only [ao9];omega)
    . exact .inr ⟨j+1,dT,by simpa using ae,ag,by rw [ar];congr 1;omega⟩
   cases ax:gl P o with
   | true=>
     rw [ax] at h;simp only [apc,apy] at h;rcases h with h | h
     . exact .inr ⟨0,o,rfl,ax,h⟩
     . exact rest h
   | false=>rw [ax] at h;exact rest h
theorem ZE {c:Bool} {f:V->V->ah->bk} {x y v:V} {h af:ah} (he:(bif c then (⟨f⟩:AE) else ⟨fun _ _ _=>.fail⟩).run x y h=.val v af):c=true/\f x y h=.val v af:=by
 cases c with
 | true=>exact ⟨rfl,he⟩
 | false=>cases he
theorem ZO {o:Oper} {call:gA} {r:c4} {h af:ah} {v:V} (b1:jv o=true) (he:(hR P o).run call r h=.val v af):∃k,af=h.new k/\True:=by
 have cells:∀{aj:List V} {ae:ah},h5 h aj=some ae->∃k,ae=h.new k/\True:=by intro aj ae he;unfold h5 at he;obtain ⟨ax,he⟩:=fV he;cases he;exact ⟨_,rfl,trivial⟩
 obtain ⟨dst,op,type,pos,after,guard⟩:=o;cases op<;>simp only [jv] at b1<;>try (cases b1;done)
 all_goals simp only [hR] at he
 case alloc t=>
  cases az:bh P t with
  | none=>rw [az] at he;simp [eN.none] at he
  | some aS=>
    rw [az] at he;simp only at he;cases bN:aS.zero with
    | none=>rw [bN] at he;simp [eN.none] at he
    | some z=>
      rw [bN] at he;simp only at he;cases aF:h5 h z.cells with
      | none=>rw [aF] at he;cases he
      | some ae=>
        rw [aF] at he;simp only [jh,bk.val.injEq] at he;obtain ⟨_,rfl⟩:=he;exact cells aF
 case box t x=>
  obtain ⟨ay,he⟩:=n2 he;cases aF:h5 h ((dc x).run r).cells with
  | none=>rw [aF] at he;cases he
  | some ae=>
    rw [aF] at he;simp only [jh,bk.val.injEq] at he;obtain ⟨_,rfl⟩:=he;exact cells aF
 case buildSlice t n bP=>
  unfold wF at he;cases az:bh P t with
  | none=>rw [az] at he;cases he
  | some aS=>
    rw [az] at he;simp only at he;cases cB:aS.bw<;>rw [cB] at he<;>simp only at he<;>try (cases he;done)
    rename_i e;cases dd:bh P e with
    | none=>rw [dd] at he;cases he
    | some bp=>
      rw [dd] at he;simp only at he;cases bN:bp.zero with
      | none=>rw [bN] at he;cases he
      | some z=>
        rw [bN] at he;simp only at he;cases ax:(Nat.ble (n * bp.size) 1000000&&Nat.beq z.cells.length bp.size) with
        | false=>rw [ax] at he;cases he
        | true=>
          rw [ax] at he;simp only [apc] at he;cases aE:o3 (fun i=>some (i * bp.size,bp.size)) (kV z.cells n) ((vM bP.toList).run r) with
          | none=>rw [aE] at he;cases he
          | some cs=>
            rw [aE] at he;simp only at he;cases aF:h5 h cs with
            | none=>rw [aF] at he;cases he
            | some ae=>
              rw [aF] at he;simp only [bk.val.injEq] at he;obtain ⟨_,rfl⟩:=he;exact cells aF
 case makeSlice t l c=>
  unfold xI at he
  split at he
  rotate_left
  . cases he
  split at he
  rotate_left
  . cases he
  split at he
  rotate_left
  . cases he
  split at he
  rotate_left
  . cases he
  obtain ⟨_,he⟩:=ZE he;simp only [zO] at he;obtain ⟨_,_,_,he⟩:=uo he;obtain ⟨_,_,_,he⟩:=uo he;obtain ⟨_,he⟩:=n2 he
  split at he
  . rename_i aF;simp only [bk.val.injEq] at he;obtain ⟨_,rfl⟩:=he;exact cells aF
  . cases he
 case makeMap t x=>
  cases x with
  | some _=>cases b1
  | none=>
    simp only [sY,zN] at he;cases az:bh P t with
    | none=>rw [az] at he;cases he
    | some aS=>
      rw [az] at he;simp only at he;cases ai:Nat.beq (gw aS.bw) 3 with
      | false=>rw [ai] at he;cases he
      | true=>
        rw [ai] at he;simp only [apc,vD,zW] at he;simp only [bk.val.injEq] at he;exact ⟨_,he.2.symm,trivial⟩
theorem aew {o:Oper} (b1:jv o=true):ij P o.op=true:=by obtain ⟨dst,op,type,pos,after,guard⟩:=o;cases op<;>simp only [jv] at b1<;>first | (cases b1;done) | rfl
theorem O6 {aK:Nat} {all:Array Oper} {o:Oper} {call:gA} {r:c4} {h af:ah} {v:V} (he:(eu P aK all o).run call r h=.val v af):
 ((hR P o).run call (gY r (c6 all o)) h=.val v af/\∀E a,RegRel0 E aK (gY r (c6 all o)) a->Region.wanted o (yielded all a.tmps)=true)\/
 (af=h/\∀H,(eu P aK all o).run call r H=.val v H):=by
 obtain ⟨a_,al⟩:=nG he;have ek:(hr aK o.dst&&kg (c6 all o))=true:=by rw [a_,al];rfl
 have key:eu P aK all o=(match o.guard with
  | none=>⟨lx none (hR P o) (c6 all o)⟩
  | some (j,want)=>match all[j]? with
    | some g=>match g.dst with
      | some d=>bif Nat.blt d aK&&Nat.ble d top then ⟨lx (some (ru (an d),want)) (hR P o) (c6 all o)⟩ else eN.none
      | none=>eN.none
    | none=>eN.none):=by
  unfold eu;rw [ek];rfl
 rw [key] at he ⊢;cases ay:o.guard with
 | none=>
   rw [ay] at he;exact .inl ⟨he,fun E a _=>by simp [Region.wanted,ay]⟩
 | some ud=>
   obtain ⟨j,want⟩:=ud;rw [ay] at he;simp only at he ⊢;cases cY:all[j]? with
   | none=>rw [cY] at he;simp [eN.none] at he
   | some g=>
     rw [cY] at he;simp only at he ⊢;cases o':g.dst with
     | none=>rw [o'] at he;simp [eN.none] at he
     | some d=>
       rw [o'] at he;simp only at he ⊢;cases ax:(Nat.blt d aK&&Nat.ble d top) with
       | false=>rw [ax] at he;simp [eN.none] at he
       | true=>
         rw [ax] at he;simp only [apc,lx] at he ⊢;have rF:=ax;simp only [ao7,apG,apn] at rF;cases b0:(ru (an d)).run (gY r (c6 all o))<;>rw [b0] at he<;>simp only at he ⊢<;>try (cases he;done)
         . rename_i b;cases ai:(bif want then b else !b)<;>rw [ai] at he<;>simp only [apc,apg] at he ⊢
           . simp only [bk.val.injEq] at he ⊢;exact .inr ⟨he.2.symm,fun H=>⟨he.1,trivial⟩⟩
           . refine .inl ⟨he,fun E a k=>?_⟩;obtain ⟨g1,_⟩:=PV k cY o' rF.1 rF.2;have bm:=g1 b b0;simp only [Region.wanted,ay,bm];cases want<;>cases b<;>simp_all
         . simp only [bk.val.injEq] at he ⊢;exact .inr ⟨he.2.symm,fun H=>⟨he.1,trivial⟩⟩
theorem O5 {aK:Nat} {all:Array Oper} {o:Oper} {call:gA} {r:c4} {h af:ah} {v:V} (b1:jv o=true) (he:(eu P aK all o).run call r h=.val v af):
 (∃k,af=h.new k/\True)\/(af=h/\∀H,(eu P aK all o).run call r H=.val v H):=by
 rcases O6 he with ⟨ae,_⟩ | ae
 . exact .inl (ZO b1 ae)
 . exact .inr ae
theorem aax {rd:Option Nat} {F:Fr} {E:Env} {h af H:ah} {w:World} {call:gA} {all:Array Oper} {i:Nat} {o:Oper} (aM:all[i]? =some o) (b1:jv o=true) {aK:Nat} {r:c4} {a:Act} {v:V}
 (he:(eu P aK all o).run call r h=.val v af) (rR:a.tmps.size=aK) (mE:∀t ∈ c6 all o,Rel E (T.get .bad (an t) r) (a.tmps.getD t undef)) (s:bE F E H w)
 (IX:af.next≠h.next) (aG:F.kD (an h.next)=some (af.get (an h.next)))
 {K:Act->World->Prop} {Q:Exit->Act->World->Prop} (ey:∀aw x w',E.le aw->Rel aw v x->bE (F.free (an h.next)) aw H w'->K (a.put o.dst x) w'):wpOpIn (aq rd) 0 P all Q i K a w:=by
 obtain ⟨a_,al⟩:=nG he
 have k:RegRel0 E aK (gY r (c6 all o)) a:=⟨rR,fun t az=>by
  rw [F8 al az];by_cases hm:t ∈ c6 all o
  . rw [ape hm];exact mE t hm
  . rw [ao_ hm];simp [Rel]⟩
 obtain ⟨gW,hw⟩:(hR P o).run call (gY r (c6 all o)) h=.val v af/\Region.wanted o (yielded all a.tmps)=true:=by
  rcases O6 he with ⟨ae,ag⟩ | ⟨ae,_⟩
  . exact ⟨ae,ag E a k⟩
  . exact absurd (by rw [ae]) IX
 obtain ⟨m,au,dL,ao,av,aC⟩:=ZM b1 gW k;simp only [wpOpIn,aM,hw,apd];obtain ⟨X,qX,ck,c0⟩:=aC w;rw [ao,ah.k6,ape rfl] at aG;have fh:E.put (an h.next) ⟨w.heap.size,0,0⟩ (an h.next)=some ⟨w.heap.size,0,0⟩:=by unfold Env.put;rw [ape rfl]
 have hle:E.le (E.put (an h.next) ⟨w.heap.size,0,0⟩):=Env.p0 (s.r0 _ _ aG).2.1;obtain ⟨cL,bf⟩:=c0 _ hle fh;have dS:F.w.heap.size<=w.heap.size:=s.frame.size;obtain ⟨_,nI⟩:=s.link aG (o:=qX) (bf _ dS);refine ⟨fun _ _=>trivial,?_⟩;rw [r5 (by intro c h;have:=b1;unfold jv at this;rw [h] at this;cases this),au,Sem.run_bind,ck];exact ey _ X _ hle cL nI
end
theorem Hz {α:Type} (p q:α->Bool):∀(l:List α),(∀x ∈ l,q x=true->p x=true)->(∃x ∈ l,p x=true/\q x=false)->l.countP q<l.countP p
 | [],_,h=>by obtain ⟨x,au,_⟩:=h;simp at au
 | a::l,ae,ag=>by
   have hle:l.countP q<=l.countP p:=List.countP_mono_left fun x au=>ae x (by simp [au]);obtain ⟨x,au,aG,aI⟩:=ag;simp only [apy] at au;rcases au with rfl | au
   . rw [List.countP_cons,List.countP_cons,aG,aI];simp;omega
   . have b6:=Hz p q l (fun y bm=>ae y (by simp [bm])) ⟨x,au,aG,aI⟩;have b1:=ae a (by simp);rw [List.countP_cons,List.countP_cons];cases adG:q a with
     | true=>rw [b1 adG];simp;omega
     | false=>simp;omega
theorem yM (e:Edge):Region.binds .any e=wE e:=by unfold Region.binds wE;cases e.ground<;>rfl
section
variable {P:Program}
theorem Kt {order:List Nat}:∀{bP:List Nat} {k j p:Nat},CW order k bP=true->bP[j]? =some p->order[p]? =some (k+j)
 | [],_,j,p,_,h=>by simp at h
 | q::bP,k,j,p,aG,h=>by
   simp only [CW,ao7] at aG;cases j with
   | zero=>
     simp only [apj,ao4] at h;subst h;have ae:=aG.1;cases aI:order[q]? with
     | none=>rw [aI] at ae;cases ae
     | some i=>rw [aI] at ae;rw [apz] at ae;rw [ae];rfl
   | succ j=>
     have:=Kt aG.2 (show bP[j]? =some p by simpa using h);rw [this];congr 1;omega
theorem q0 {ops:Array Oper}:∀{order:List Nat} {p i:Nat} {o:Oper},order[p]? =some i->ops[i]? =some o->(jV ops order)[p]? =some o
 | [],p,i,o,h,_=>by simp at h
 | x::xs,p,i,o,h,bJ=>by
   cases p with
   | zero=>
     simp only [apj,ao4] at h;subst h;simp [jV,bJ]
   | succ p=>simpa [jV] using q0 (show xs[p]? =some i by simpa using h) bJ
theorem z1 {ops:Array Oper}:∀{order:List Nat},(jV ops order).length=order.length
 | []=>rfl
 | x::xs=>by simp [jV,z1 (order:=xs)]
structure Cert (P:Program) (aK:Nat) (ops:Array Oper) (calls:Nat->gA) (es:List iw) (aW:c4) (aL:ah) (fN:c4) (aE:ah) (hj:List Nat) (order aJ:List Nat) (N M:Nat) (lit:Bool):Prop where
 len:es.length=N
 CK:N<=ops.size
 vI:N<=M
 ji:∀k,k<ops.size->posOf aJ k<ops.size/\order[posOf aJ k]? =some k
 mK:∀p,p<ops.size->∃i,i<ops.size/\posOf aJ i=p
 aL:dM es aE 0=aL
 aW:fH es fN 0=aW
 step:∀i o,ops[i]? =some o->posOf aJ i<N->∃e,es[posOf aJ i]? =some e/\(eu P aK ops o).run (calls i) e.r e.h=.val e.v (dM es aE (posOf aJ i+1))/\fH es fN (posOf aJ i+1)=(kE o.dst).run e.r e.v
 y5:∀i o,ops[i]? =some o->∃ei,(gm [] ops.toList)[i]? =some ei/\sX i o=true/\(posOf aJ i<M->
  ∀k ok,ops[k]? =some ok->posOf aJ k<M->∃mk,(gm [] ops.toList)[k]? =some mk/\uw i ei (c6 ops o) o.dst k mk ok (Nat.blt (posOf aJ k) (posOf aJ i))=true/\(ij P o.op=true->gl P ok=true->posOf aJ k<posOf aJ i->hI ei k=true\/(lit=true/\zz o=true/\zz ok=true)))
 ends:N ∈ hj
 mem:∀j o,ops[j]? =some o->gl P o=true->posOf aJ j ∈ hj
 Tp:∀s ∈ hj,(s=ops.size\/(s=N/\M=N))\/∃k o,ops[k]? =some o/\gl P o=true/\s=posOf aJ k
 ask:∀j o,ops[j]? =some o->looks o.op=true->ij P o.op=false->posOf aJ j<N->∃e,es[posOf aJ j]? =some e/\∀s ∈ hj,
  vG P (gm [] ops.toList) ops.toList aJ j (((gm [] ops.toList)[j]?).getD 0) s=true->∃c af,(iv P c/\iG P c)/\(eu P aK ops o).run c e.r (dM es aE s)=.val e.v af
 tail:M<ops.size->M=N/\∀k ok mk,ops[k]? =some ok->N<=posOf aJ k->(gm [] ops.toList)[k]? =some mk->∀j,j<ops.size->posOf aJ j<N->hI mk j=true
 stop:N<ops.size->ops.size<=M->∃i0 mb m0,ops[i0]? =some mb/\posOf aJ i0=N/\nM mb.op=true/\(gm [] ops.toList)[i0]? =some m0/\
  (∀k ok mk,ops[k]? =some ok->N<posOf aJ k->(gm [] ops.toList)[k]? =some mk->hI mk i0=true)/\
  (∀k ok,ops[k]? =some ok->jv ok=true->posOf aJ k<N->hI m0 k=true)/\∃v af,(eu P aK ops mb).run (calls i0) fN aE=.f' v af
theorem JP {o:Oper} (h:nM o.op=true):ij P o.op=true/\jv o=false:=by
 obtain ⟨dst,op,type,pos,after,guard⟩:=o;cases op<;>simp only [nM] at h<;>try (cases h;done)
 . rename_i c;obtain ⟨callee,args,types⟩:=c;cases callee<;>simp only at h<;>try (cases h;done)
   exact ⟨rfl,rfl⟩
 . exact ⟨rfl,rfl⟩
variable {aK:Nat} {ops:Array Oper} {call:gA} {calls:Nat->gA} {es:List iw} {aW:c4} {aL:ah} {fN:c4} {aE:ah} {hj:List Nat} {order aJ:List Nat} {N M:Nat} {lit:Bool}
theorem Cert.vP (C:Cert P aK ops calls es aW aL fN aE hj order aJ N M lit) {k bZ:Nat} (ae:k<ops.size) (ag:bZ<ops.size) (he:posOf aJ k=posOf aJ bZ):k=bZ:=by have a:=(C.ji k ae).2;have b:=(C.ji bZ ag).2;rw [he,b] at a;cases a;rfl
theorem aaz {ops:Array Oper} {aJ:List Nat} (aE:DU P ops aJ=true):∀i o,ops[i]? =some o->∃ei,(gm [] ops.toList)[i]? =some ei/\sX i o=true/\
 ∀k ok,ops[k]? =some ok->∃mk,(gm [] ops.toList)[k]? =some mk/\uw i ei (c6 ops o) o.dst k mk ok (Nat.blt (posOf aJ k) (posOf aJ i))=true/\(ij P o.op=true->gl P ok=true->posOf aJ k<posOf aJ i->hI ei k=true):=by
 intro i o aM;unfold DU at aE;obtain ⟨ei,ae,ag⟩:=uU aE i o (by simpa using aM);simp only [apH,ao7] at ag;refine ⟨ei,ae,ag.1,fun k ok aD=>?_⟩;obtain ⟨mk,dr,dZ⟩:=uU ag.2 k ok (by simpa using aD);simp only [apH,ao7] at dZ;refine ⟨mk,dr,dZ.1,fun aP bu a1=>?_⟩;have hT:=dZ.2;rw [aP,bu,aqk,show Nat.blt (posOf aJ k) (posOf aJ i)=true from by rw [apG];exact a1] at hT;exact hT
theorem Cert.KJ (C:Cert P aK ops calls es aW aL fN aE hj order aJ N M lit):∀p,p<=N->∀t,t<=top->
 (∃k o e,posOf aJ k<p/\ops[k]? =some o/\o.dst=some t/\es[posOf aJ k]? =some e/\T.get .bad (an t) (fH es fN p)=e.v)\/
 ((∀k o,posOf aJ k<p->ops[k]? =some o->o.dst≠some t)/\T.get .bad (an t) (fH es fN p)=T.get .bad (an t) aW)
 | 0,_,t,az=>.inr ⟨fun k o h=>by omega,by rw [C.aW]⟩
 | p+1,aM,t,az=>by
   obtain ⟨i,a1,mD⟩:=C.mK p (by have:=C.CK;omega);have dF:ops[i]? =some ops[i]:=apt a1;obtain ⟨e,ae,ag,ar⟩:=C.step i ops[i] dF (by omega);rw [mD] at ae ag ar;have I8:fH es fN p=e.r:=by simp [fH,ae]
   have fh:=PQ (r:=e.r) (v:=e.v) (nG ag).1 az;rw [ar,fh];by_cases a_:ops[i].dst=some t
   . rw [ape a_];exact .inl ⟨i,_,e,by omega,dF,a_,by rw [mD];exact ae,rfl⟩
   . rw [ao_ a_,<-I8];rcases Cert.KJ C p (by omega) t az with ⟨k,o,fk,ao,av,aC,bs,ca⟩ | ⟨ao,av⟩
     . exact .inl ⟨k,o,fk,by omega,av,aC,bs,ca⟩
     . refine .inr ⟨fun k o aD bJ=>?_,av⟩;by_cases k':k=i
       . subst k';rw [dF] at bJ;cases bJ;exact a_
       . refine ao k o ?_ bJ;have rJ:=(ao5.1 bJ).1;have:posOf aJ k≠p:=fun e=>k' (C.vP rJ a1 (by rw [e,mD]));omega
theorem Cert.O_ (C:Cert P aK ops calls es aW aL fN aE hj order aJ N M lit):∀p,p<=N->T.get .bad mu (fH es fN p)=T.get .bad mu aW
 | 0,_=>by rw [C.aW]
 | p+1,aM=>by
   obtain ⟨i,a1,mD⟩:=C.mK p (by have:=C.CK;omega);have dF:ops[i]? =some ops[i]:=apt a1;obtain ⟨e,ae,ag,ar⟩:=C.step i ops[i] dF (by omega);rw [mD] at ae ag ar;have I8:fH es fN p=e.r:=by simp [fH,ae]
   have a_:=(nG ag).1;rw [ar,<-Cert.O_ C p (by omega),I8];cases acI:ops[i].dst with
   | none=>rfl
   | some d=>
     rw [acI] at a_;simp only [hr,ao7,apn] at a_;simp only [kE];rw [T.m',ao_ (Kl a_.2)]
def nameAt (es:List iw) (aE:ah) (aJ:List Nat) (k:Nat):aO:=an (dM es aE (posOf aJ k)).next
def A_ (es:List iw) (aE:ah) (aJ:List Nat) (k:Nat):c':=(dM es aE (posOf aJ k+1)).get (nameAt es aE aJ k)
def Made (es:List iw) (aE:ah) (aJ:List Nat) (k:Nat):Prop:=(dM es aE (posOf aJ k+1)).next≠(dM es aE (posOf aJ k)).next
def mn (ops:Array Oper) (es:List iw) (aE:ah) (aJ:List Nat) (listed:Array Bool) (s k:Nat):Prop:=
 ∃o,ops[k]? =some o/\(jv o=true/\Made es aE aJ k)/\¬listed.getD k false=true/\posOf aJ k<s
structure Holds (aB F:Fr) (es:List iw) (aE:ah) (aJ:List Nat) (D:Nat->Prop):Prop where
 w:F.w=aB.w
 cr:∀b,(∀k,D k->nameAt es aE aJ k≠b)->F.kD b=aB.kD b
 new:∀k,D k->F.kD (nameAt es aE aJ k)=some (A_ es aE aJ k)/\aB.kD (nameAt es aE aJ k)=none
 inj:∀k bZ,D k->D bZ->nameAt es aE aJ k=nameAt es aE aJ bZ->k=bZ
theorem Holds.congr {aB F:Fr} {D LP:Nat->Prop} (H:Holds aB F es aE aJ D) (h:∀k,LP k↔D k):Holds aB F es aE aJ LP:=
 ⟨H.w,fun b ai=>H.cr b fun k aD=>ai k ((h k).2 aD),fun k aD=>H.new k ((h k).1 aD),fun k bZ aD jG=>H.inj k bZ ((h k).1 aD) ((h bZ).1 jG)⟩
theorem Holds.none {aB F:Fr} {D:Nat->Prop} (H:Holds aB F es aE aJ D) (h:∀k,¬D k):F=aB:=by have:F.kD=aB.kD:=funext fun b=>H.cr b fun k aD=>absurd aD (h k);cases F;cases aB;have hw:=H.w;simp only at this hw;rw [this,hw]
theorem Cert.advance (C:Cert P aK ops calls es aW aL fN aE hj order aJ N M lit) {aB:Fr} {listed:Array Bool} {E:Env} {w:World}:∀(d q:Nat),q+d=N->(∀k o,ops[k]? =some o->jv o=true->q<=posOf aJ k->¬listed.getD k false=true)->
 ∀F,Holds aB F es aE aJ (mn ops es aE aJ listed q)->bE F E (dM es aE q) w->
 ∃s eZ,s ∈ hj/\q<=s/\s<=N/\(∀k o,ops[k]? =some o->gl P o=true->q<=posOf aJ k->s<=posOf aJ k)/\Holds aB eZ es aE aJ (mn ops es aE aJ listed s)/\bE eZ E (dM es aE s) w
 | 0,q,aI,_,F,H,S=>by
   have:q=N:=by omega
   subst this;exact ⟨q,F,C.ends,ao1 _,ao1 _,fun k o _ _ h=>h,H,S⟩
 | d+1,q,aI,vq,F,H,S=>by
   obtain ⟨i,a1,mD⟩:=C.mK q (by have:=C.CK;omega);have dF:ops[i]? =some ops[i]:=apt a1;cases w6:gl P ops[i] with
   | true=>exact ⟨q,F,by rw [<-mD];exact C.mem i _ dF w6,ao1 _,by omega,fun k o _ _ h=>h,H,S⟩
   | false=>
     obtain ⟨e,ae,ag,ar⟩:=C.step i ops[i] dF (by omega);rw [mD] at ae ag;have vn:dM es aE q=e.h:=by simp [dM,ae]
     have only:∀k o,ops[k]? =some o->posOf aJ k=q->k=i:=fun k o aD aG=>C.vP (ao5.1 aD).1 a1 (by rw [aG,mD]);have fin:∀eZ,Holds aB eZ es aE aJ (mn ops es aE aJ listed (q+1))->bE eZ E (dM es aE (q+1)) w->
      ∃s eZ,s ∈ hj/\q<=s/\s<=N/\(∀k o,ops[k]? =some o->gl P o=true->q<=posOf aJ k->s<=posOf aJ k)/\Holds aB eZ es aE aJ (mn ops es aE aJ listed s)/\bE eZ E (dM es aE s) w:=by
      intro eZ km Vk;obtain ⟨s,tc,g1,g2,g3,g4,g5,g6⟩:=Cert.advance C d (q+1) (by omega) (fun k o ae ag ar=>vq k o ae ag (by omega)) eZ km Vk;refine ⟨s,tc,g1,by omega,g3,fun k o aD ax aG=>g4 k o aD ax ?_,g5,g6⟩;by_cases I6:posOf aJ k=q
      . have:=only k o aD I6;subst this;rw [dF] at aD;cases aD;rw [w6] at ax;cases ax
      . omega
     have pass:dM es aE (q+1)=e.h->(jv ops[i]=true->¬Made es aE aJ i)->∃s eZ,s ∈ hj/\q<=s/\s<=N/\(∀k o,ops[k]? =some o->gl P o=true->q<=posOf aJ k->s<=posOf aJ k)/\Holds aB eZ es aE aJ (mn ops es aE aJ listed s)/\bE eZ E (dM es aE s) w:=by
      intro zn qD;rw [<-vn] at zn;refine fin F (H.congr fun k=>⟨?_,?_⟩) (by rw [zn];exact S)
      . rintro ⟨o,ao,av,aC,bs⟩;refine ⟨o,ao,av,aC,?_⟩;have:posOf aJ k≠q:=fun e=>by
         have:=only k o ao e;subst this;rw [dF] at ao;cases ao;exact qD av.1 av.2
        omega
      . rintro ⟨o,ao,av,aC,bs⟩;exact ⟨o,ao,av,aC,by omega⟩
     cases b1:jv ops[i] with
     | true=>
      rcases O5 b1 ag with ⟨dL,dr,dZ⟩ | ⟨dr,_⟩
      ·
       have al:=S.hold dL;have aF:nameAt es aE aJ i=an (dM es aE q).next:=by unfold nameAt;rw [mD]
       have ai:A_ es aE aJ i=dL:=by unfold A_;rw [aF,mD,dr,vn,ah.k6,ape rfl]
       rw [vn,<-dr] at al;have adi:Made es aE aJ i:=by unfold Made;rw [mD,dr,vn];exact Nat.succ_ne_self _
       have vp:¬listed.getD i false=true:=vq i _ dF b1 (by omega);have Ht:∀k,mn ops es aE aJ listed (q+1) k->k=i\/mn ops es aE aJ listed q k:=by
        rintro k ⟨o,ao,av,aC,bs⟩;by_cases I6:posOf aJ k=q
        . exact .inl (only k o ao I6)
        . exact .inr ⟨o,ao,av,aC,by omega⟩
       have fresh:∀b xA,F.kD b=some xA->b≠nameAt es aE aJ i:=by intro b xA qB heq;obtain ⟨_,_,j,vy,uc⟩:=S.r0 b xA qB;rw [heq,aF] at uc;rw [vn] at vy uc;have:=nT uc;omega
       have QR:∀b,b≠nameAt es aE aJ i->(F.hold (an e.h.next) dL).kD b=F.kD b:=by intro b P7;rw [aF,vn] at P7;simp only [Fr.hold,ao_ P7]
       have Wd:(F.hold (an e.h.next) dL).kD (nameAt es aE aJ i)=some dL:=by rw [aF,vn];simp only [Fr.hold,apd]
       have ne:∀k,mn ops es aE aJ listed q k->nameAt es aE aJ k≠nameAt es aE aJ i:=fun k aD=>fresh _ _ (H.new k aD).1;refine fin (F.hold (an e.h.next) dL) ⟨H.w,fun b qB=>?_,fun k aD=>?_,fun k bZ aD jG he=>?_⟩ al
       . have w3:b≠nameAt es aE aJ i:=fun e=>qB i ⟨_,dF,⟨b1,adi⟩,vp,by omega⟩ e.symm;rw [QR b w3];exact H.cr b fun k aD=>qB k (by obtain ⟨o,ao,av,aC,bs⟩:=aD;exact ⟨o,ao,av,aC,by omega⟩)
       . rcases Ht k aD with rfl | aD
         . refine ⟨by rw [Wd,ai],?_⟩;cases aG:aB.kD (nameAt es aE aJ k) with
           | none=>rfl
           | some xA=>
             exfalso;have:=H.cr (nameAt es aE aJ k) fun bZ jG=>ne bZ jG;rw [aG] at this;exact fresh _ _ this rfl
         . rw [QR _ (ne k aD)];exact H.new k aD
       . rcases Ht k aD with rfl | aD<;>rcases Ht bZ jG with rfl | jG
         . rfl
         . exact absurd he.symm (ne bZ jG)
         . exact absurd he (ne k aD)
         . exact H.inj k bZ aD jG he
      . refine pass dr fun _ hm=>hm ?_;rw [mD,dr,vn]
     | false=>
       have dY:ij P ops[i].op=false:=by unfold gl at w6;rw [b1] at w6;simpa using w6
       exact pass (Bo dY ag).1 fun h=>by rw [b1] at h;cases h
structure uW (P:Program) (aB:Fr) (aK:Nat) (ops:Array Oper) (es:List iw) (aW:c4) (aE:ah) (hj aJ:List Nat) (j3:Env) (N:Nat) (D:List Deferred) (listed:Array Bool) (a:Act) (w:World):Prop where
 CA:listed.size=ops.size
 size:a.tmps.size=aK
 defers:a.defers=D
 u5:∀k,listed.getD k false=true->posOf aJ k<N
 down:r_ ops fun k=>listed.getD k false=true
 main:∃E s F,j3.le E/\s ∈ hj/\s<=N/\(∀k o,ops[k]? =some o->gl P o=true->(listed.getD k false=true↔posOf aJ k<s))/\
  (∀k o,ops[k]? =some o->jv o=true->listed.getD k false=true->posOf aJ k<s)/\Holds aB F es aE aJ (mn ops es aE aJ listed s)/\bE F E (dM es aE s) w/\
  ∀t,t<=top->(∃k o e,listed.getD k false=true/\ops[k]? =some o/\o.dst=some t/\es[posOf aJ k]? =some e/\Rel E e.v (a.tmps.getD t undef))\/
   ((∀k o,listed.getD k false=true->ops[k]? =some o->o.dst≠some t)/\Rel E (T.get .bad (an t) aW) (a.tmps.getD t undef))
theorem wX {l:Array Bool} {i:Nat}:l.getD i false=true↔l[i]? =some true:=by
 rw [apw];cases l[i]? with
 | none=>simp
 | some b=>cases b<;>simp
theorem iC {l:Array Bool} {i k:Nat} (aM:i<l.size):(l.setIfInBounds i true).getD k false=true↔(k=i\/l.getD k false=true):=by
 rw [wX,wX,apq];by_cases h:i=k
 . subst h;simp [aM]
 . have:¬k=i:=fun e=>h e.symm;simp [h,this]
theorem D8 {r:c4} {t:Nat} (az:t<=top):∀{l:List Oper},T.get .bad (an t) (o2 r l)=.bad\/(T.get .bad (an t) (o2 r l)=T.get .bad (an t) r/\∀o ∈ l,o.dst≠some t)
 | []=>.inr ⟨rfl,fun o bJ=>by simp at bJ⟩
 | o::os=>by
   simp only [o2];cases a_:o.dst with
   | none=>
     simp only;rcases D8 (r:=r) az (l:=os) with h | ⟨ae,ag⟩
     . exact .inl h
     . exact .inr ⟨ae,fun dT jt=>by
        rcases apy.1 jt with rfl | jt
        . rw [a_];simp
        . exact ag dT jt⟩
   | some d=>
     simp only;cases ai:Nat.ble d top with
     | true=>
       simp only [apc];rw [T.m'];by_cases w9:d=t
       . subst w9;rw [ape rfl];exact .inl rfl
       . rw [ao_ (fun e=>w9 (nT e))];rcases D8 (r:=r) az (l:=os) with h | ⟨ae,ag⟩
         . exact .inl h
         . exact .inr ⟨ae,fun dT jt=>by
            rcases apy.1 jt with rfl | jt
            . rw [a_];simpa using w9
            . exact ag dT jt⟩
     | false=>
       simp only [apg];have w9:d≠t:=fun e=>by subst e;rw [<-Nat.ble_eq] at az;rw [az] at ai;cases ai
       rcases D8 (r:=r) az (l:=os) with h | ⟨ae,ag⟩
       . exact .inl h
       . exact .inr ⟨ae,fun dT jt=>by
          rcases apy.1 jt with rfl | jt
          . rw [a_];simpa using w9
          . exact ag dT jt⟩
theorem D7 {r:c4}:∀{l:List Oper},T.get .bad mu (o2 r l)=T.get .bad mu r
 | []=>rfl
 | o::os=>by
   simp only [o2];cases a_:o.dst with
   | none=>exact D7
   | some d=>
     simp only;cases ai:Nat.ble d top with
     | true=>
       simp only [apc];rw [T.m',ao_ (Kl (apF ai))];exact D7
     | false=>exact D7
theorem aaC {rd:Option Nat} {D:List Deferred} {aB:Fr} (cP:hn P) (fL:∀i,iv P (calls i)) (h0:∀i,iG P (calls i)) (C:Cert P aK ops calls es aW aL fN aE hj order aJ N M lit) {j3:Env} {listed:Array Bool} {a:Act} {w:World} (I:uW P aB aK ops es aW aE hj aJ j3 N D listed a w)
 {i:Nat} (aM:i ∈ Region.ready .any ops listed) (ac2:posOf aJ i<M) (ac5:lit=true->∀o k ok,ops[i]? =some o->zz o=true->ops[k]? =some ok->zz ok=true->posOf aJ k<posOf aJ i->listed.getD k false=true) {Q:Exit->Act->World->Prop} {K:Act->World->Prop} (ey:∀bF w',uW P aB aK ops es aW aE hj aJ j3 N D (listed.setIfInBounds i true) bF w'->K bF w')
 (b':∀aw bF w' x v af,j3.le aw->N<ops.size->ops.size<=M->(∃i0 mb,ops[i0]? =some mb/\posOf aJ i0=N/\(eu P aK ops mb).run (calls i0) fN aE=.f' v af)->RegRel0 aw aK (o2 aW ops.toList) bF->bF.defers=D->Rel aw v x->bE aB aw af w'->Q (.panic (nU x)) bF w'):wpOpIn (aq rd) 0 P ops Q i K a w:=by
 rw [mem_ready] at aM;obtain ⟨E,s,F,eh,al,zp,od,gq,na,sI,xm⟩:=I.main;obtain ⟨vq,o,dF,w_⟩:=aM;have hS:i<ops.size:=(ao5.1 dF).1;have vr:¬listed.getD i false=true:=by rw [wX];intro h;rw [apw,h] at vq;simp at vq
 have Qo:=CD I.down ops.toList [] (fun j=>by simp) (fun k m j aD=>by simp at aD);have za:r_ ops fun k=>listed.getD k false=true\/k=i:=by
  intro k ok e aD br he ai;rcases aD with aD | rfl
  . exact .inl (I.down k ok e aD br he ai)
  . rw [dF] at br;cases br;exact .inl (w_ e (aqj.1 he) (by rw [yM];exact ai))
 have adg:=CD za ops.toList [] (fun j=>by simp) (fun k m j aD=>by simp at aD);obtain ⟨ei,oe,nc,EL⟩:=C.y5 i o dF;have EL:=EL ac2;have Ig:=C.vI;have BL:∀k,k≠i->hI ei k=true->listed.getD k false=true:=by
  intro k aD ai;rcases adg i ei k oe ai (.inr rfl) with h | h
  . exact h
  . exact absurd h aD
 have j_:=(C.ji i hS).1;have adD:posOf aJ i<=N:=by
  rcases aqc N (posOf aJ i) with acW | hle
  . exfalso;have En:ops.size<=M:=by
     rcases aqc M ops.size with h | h
     . have:=(C.tail h).1;omega
     . exact h
    obtain ⟨i0,mb,m0,cZ,z2,z3,z4,z5,_⟩:=C.stop (by omega) En;have ai:=z5 i o ei dF acW oe;have ae:=BL i0 (fun e=>by subst e;omega) ai;have:=I.u5 i0 ae;omega
  . exact hle
 have uniq:∀(k bZ:Nat) (ok mJ:Oper) (t:Nat),ops[k]? =some ok->ops[bZ]? =some mJ->posOf aJ k<M->posOf aJ bZ<M->ok.dst=some t->mJ.dst=some t->k=bZ:=by
  intro k bZ ok mJ t ae ag bW df ar aT;obtain ⟨mk,_,_,aG⟩:=C.y5 k ok ae;obtain ⟨mk',_,h7,_⟩:=aG bW bZ mJ ag df;unfold uw at h7;rw [oW] at h7;by_cases l6:k=bZ
  . exact l6
  . rw [ao_ l6,aT,ar] at h7;simp at h7
 have SK:kg (c6 ops o)=true->∀t ∈ c6 ops o,Rel E (T.get .bad (an t) (fH es fN (posOf aJ i))) (a.tmps.getD t undef):=by
  intro tW t az;have zt:t<=top:=by have:=apA.1 tW t az;exact apF this
  have Sa:∀(k:Nat) (ok:Oper),k≠i->posOf aJ k<M->ops[k]? =some ok->ok.dst=some t->∃mk,(gm [] ops.toList)[k]? =some mk/\(posOf aJ k<posOf aJ i->hI ei k=true)/\(¬posOf aJ k<posOf aJ i->hI mk i=true):=by
   intro k ok aD IK br a_;obtain ⟨mk,ao,av,_⟩:=EL k ok br IK;refine ⟨mk,ao,?_⟩;unfold uw at av;rw [oW,ao_ (fun e=>aD e.symm),a_] at av;simp only [ao7] at av;have aC:=av.1;rw [show (c6 ops o).contains t=true from by simpa using az] at aC;simp only [apc] at aC;refine ⟨fun a1=>?_,fun o_=>?_⟩
   . rw [show Nat.blt (posOf aJ k) (posOf aJ i)=true from by rw [apG];exact a1] at aC;exact aC
   . rw [show Nat.blt (posOf aJ k) (posOf aJ i)=false from by rw [<-Bool.not_eq_true,apG];exact o_] at aC;exact aC
  rcases C.KJ (posOf aJ i) adD t zt with ⟨k,ok,yU,ao,av,aC,bs,ca⟩ | ⟨ao,av⟩
  . obtain ⟨mk,_,hW,_⟩:=Sa k ok (fun e=>by subst e;omega) (by omega) av aC;have ada:=BL k (fun e=>by subst e;omega) (hW ao);rcases xm t zt with ⟨bZ,mJ,HJ,ck,c0,e2,ke,p9⟩ | ⟨ck,_⟩
    . have:=uniq k bZ ok mJ t av c0 (by omega) (by have:=I.u5 bZ ck;omega) aC e2;subst this;rw [bs] at ke;cases ke;rw [ca];exact p9
    . exact absurd aC (ck k ok ada av)
  . rcases xm t zt with ⟨bZ,mJ,HJ,ck,c0,e2,ke,p9⟩ | ⟨_,c0⟩
    . have k':bZ≠i:=fun e=>vr (e ▸ ck);obtain ⟨mk,m1,_,fm⟩:=Sa bZ mJ k' (by have:=I.u5 bZ ck;omega) c0 e2;by_cases a1:posOf aJ bZ<posOf aJ i
      . exact absurd e2 (ao bZ mJ a1 c0)
      . exact absurd (Qo bZ mk i m1 (fm a1) ck) vr
    . rw [av];exact c0
 have level:ij P o.op=true->s<=posOf aJ i->s=posOf aJ i/\jv o=false:=by
  intro nH hle;rcases C.Tp s al with (h | ⟨h,Em⟩) | ⟨k,ok,dr,dZ,hT⟩
  . omega
  . omega
  . have zi:¬listed.getD k false=true:=fun h=>by have:=(od k ok dr dZ).1 h;omega
    have rJ:=(ao5.1 dr).1;by_cases k':k=i
    . subst k';rw [dF] at dr;cases dr;refine ⟨hT,?_⟩;unfold gl at dZ;simpa [nH] using dZ
    . have a1:posOf aJ k<posOf aJ i:=by
       have:posOf aJ k≠posOf aJ i:=fun e=>k' (C.vP rJ hS e);omega
      obtain ⟨mk,_,_,aC⟩:=EL k ok dr (by omega);rcases aC nH dZ a1 with h | ⟨g1,g2,g3⟩
      . exact absurd (BL k k' h) zi
      . exact absurd (ac5 g1 o k ok dF g2 dr g3 a1) zi
 rcases aqc (posOf aJ i) N with IU | an2
 case inr=>
  have oh:posOf aJ i=N:=by omega
  have En:ops.size<=M:=by
   rcases aqc M ops.size with h | h
   . have:=(C.tail h).1;omega
   . exact h
  obtain ⟨i0,mb,m0,cZ,z2,z3,z4,z5,kj,v,af,LD⟩:=C.stop (by omega) En;have ac4:i0=i:=C.vP (ao5.1 cZ).1 hS (by rw [z2,oh]);subst ac4;rw [dF] at cZ;cases cZ;rw [oe] at z4;cases z4;obtain ⟨nH,adn⟩:=JP z3;have BN:gl P o=true:=by unfold gl;rw [nH,adn];rfl
  have Ja:s<=posOf aJ i0:=by
   rcases aqc (posOf aJ i0) s with h | h
   . exact absurd ((od i0 o dF BN).2 h) vr
   . exact h
  have zo:=(level nH Ja).1;have hJ:F=aB:=na.none fun k aD=>by
   obtain ⟨ok,ao,av,aC,bs⟩:=aD;have k':k≠i0:=fun e=>by subst e;omega
   exact aC (BL k k' (kj k ok ao av.1 (by omega)))
  subst hJ;have fb:es[N]? =none:=apv (by rw [C.len];exact ao1 _);have mE:=SK (HG LD).2;rw [oh] at mE;simp only [fH,fb] at mE;rw [zo,oh] at sI;simp only [dM,fb] at sI;refine O3 cP (fL i0) (h0 i0) dF LD z3 I.size mE sI fun aw x w' ao av aC=>b' aw a w' x v af (eh.trans ao) (by omega) En ⟨i0,o,dF,oh,LD⟩ ⟨I.size,fun t az=>?_⟩ I.defers av aC;rcases D8 (r:=aW) az (l:=ops.toList) with h | ⟨ae,ag⟩
  . rw [h];simp [Rel]
  . rw [ae];rcases xm t az with ⟨k,ok,yU,ck,c0,e2,ke,p9⟩ | ⟨ck,c0⟩
    . exact absurd e2 (ag ok (by rw [<-Array.getElem?_toList] at c0;exact aqi c0))
    . exact Rel.mono ao _ _ c0
 obtain ⟨e,Ex,eT,aoe⟩:=C.step i o dF IU;have ih:=nG eT;have fW:fH es fN (posOf aJ i)=e.r:=by simp [fH,Ex]
 have lA:dM es aE (posOf aJ i)=e.h:=by simp [dM,Ex]
 have reads:=SK ih.2;rw [fW] at reads;have h2:i<listed.size:=by rw [I.CA];exact hS
 have after:∀(jX:Nat) (eZ:Fr) (aw:Env) (x:Value) (w':World),jX ∈ hj->jX<=N->(∀k ok,ops[k]? =some ok->gl P ok=true->((k=i\/listed.getD k false=true)↔posOf aJ k<jX))->
  (∀k ok,ops[k]? =some ok->jv ok=true->(k=i\/listed.getD k false=true)->posOf aJ k<jX)->
  Holds aB eZ es aE aJ (mn ops es aE aJ (listed.setIfInBounds i true) jX)->E.le aw->Rel aw e.v x->bE eZ aw (dM es aE jX) w'->
  uW P aB aK ops es aW aE hj aJ j3 N D (listed.setIfInBounds i true) (a.put o.dst x) w':=by
  intro jX eZ aw x w' l8 adT j7 acp acX hle au adQ
  refine ⟨by simp [I.CA],by cases h:o.dst<;>simp [Act.put,I.size],by cases h:o.dst<;>simp [Act.put,I.defers],fun k aD=>by
   rcases (iC h2).1 aD with rfl | aD
   . exact IU
   . exact I.u5 k aD,?_,aw,jX,eZ,eh.trans hle,l8,adT,fun k ok ae ag=>by rw [iC h2];exact j7 k ok ae ag,
   fun k ok ae ag ar=>acp k ok ae ag ((iC h2).1 ar),acX,adQ,fun t az=>?_⟩
  . intro k ok fk aD br gW ai;rw [iC h2] at aD ⊢;rcases za k ok fk aD.symm br gW ai with h | h
    . exact .inr h
    . exact .inl h
  . by_cases a_:o.dst=some t
    . refine .inl ⟨i,o,e,by rw [iC h2];exact .inl rfl,dF,a_,Ex,?_⟩;have a1:t<a.tmps.size:=by
       have:=ih.1;rw [a_] at this;simp only [hr,ao7,apG] at this;rw [I.size];exact this.1
      rw [a_];simp only [Act.put];rw [apw,apq,ape rfl,ape a1];exact au
    . have fh:(a.put o.dst x).tmps.getD t undef=a.tmps.getD t undef:=by
       cases adx:o.dst with
       | none=>rfl
       | some d=>
         simp only [Act.put];rw [apw,apw,apq,ao_ (fun e=>a_ (by rw [adx,e]))]
      rw [fh];rcases xm t az with ⟨k,ok,yU,ck,c0,e2,ke,p9⟩ | ⟨ck,c0⟩
      . exact .inl ⟨k,ok,yU,by rw [iC h2];exact .inr ck,c0,e2,ke,Rel.mono hle _ _ p9⟩
      . refine .inr ⟨fun k ok aD br=>?_,Rel.mono hle _ _ c0⟩;rw [iC h2] at aD;rcases aD with rfl | aD
        . rw [dF] at br;cases br;exact a_
        . exact ck k ok aD br
 have Iz:¬(jv o=true/\Made es aE aJ i)->∀jX k,mn ops es aE aJ (listed.setIfInBounds i true) jX k↔mn ops es aE aJ listed jX k:=by
  intro b1 jX k;constructor
  . rintro ⟨ok,ao,av,aC,bs⟩;exact ⟨ok,ao,av,fun h=>aC ((iC h2).2 (.inr h)),bs⟩
  . rintro ⟨ok,ao,av,aC,bs⟩;refine ⟨ok,ao,av,fun h=>?_,bs⟩;rcases (iC h2).1 h with rfl | h
    . rw [dF] at ao;cases ao;exact b1 av
    . exact aC h
 cases nH:ij P o.op with
 | true=>
   cases b1:jv o with
   | true=>
     have a1:posOf aJ i<s:=by
      rcases aqc (posOf aJ i) s with h | h
      . exact h
      . have:=(level nH h).2;rw [b1] at this;cases this
     by_cases hm:Made es aE aJ i
     case neg=>
      have I':(eu P aK ops o).run (calls i) e.r (dM es aE s)=.val e.v (dM es aE s):=by
       rcases O5 b1 eT with ⟨dL,dr,_⟩ | ⟨_,dr⟩
       . exact absurd (show Made es aE aJ i from by unfold Made;rw [dr,lA];exact Nat.succ_ne_self _) hm
       . exact dr _
      refine sq cP (fL i) (h0 i) dF I' I.size reads sI fun aw x w' ao av aC=>ey _ _ (after s F aw x w' al zp (fun k ok br k9=>?_) (fun k ok br rI aD=>?_) (na.congr fun k=>Iz (fun h=>hm h.2) s k) ao av aC)
      . constructor
        . rintro (rfl | h)
          . rw [dF] at br;cases br;unfold gl at k9;rw [b1] at k9;simp at k9
          . exact (od k ok br k9).1 h
        . intro h;exact .inr ((od k ok br k9).2 h)
      . rcases aD with rfl | aD
        . exact a1
        . exact gq k ok br rI aD
     have pN:mn ops es aE aJ listed s i:=⟨o,dF,⟨b1,hm⟩,vr,a1⟩;have IX:(dM es aE (posOf aJ i+1)).next≠e.h.next:=by rw [<-lA];exact hm
     have qD:nameAt es aE aJ i=an e.h.next:=by unfold nameAt;rw [lA]
     have og:=(na.new i pN).1;have zw:=(na.new i pN).2;have w4:A_ es aE aJ i=(dM es aE (posOf aJ i+1)).get (an e.h.next):=by unfold A_;rw [qD]
     rw [qD,w4] at og;refine aax dF b1 eT I.size reads sI IX og fun aw x w' ao av aC=>ey _ _ (after s (F.free (an e.h.next)) aw x w' al zp (fun k ok br k9=>?_) (fun k ok br rI aD=>?_) ?_ ao av aC)
     . constructor
       . rintro (rfl | h)
         . rw [dF] at br;cases br;unfold gl at k9;rw [b1] at k9;simp at k9
         . exact (od k ok br k9).1 h
       . intro h;exact .inr ((od k ok br k9).2 h)
     . rcases aD with rfl | aD
       . exact a1
       . exact gq k ok br rI aD
     . have sub:∀k,mn ops es aE aJ (listed.setIfInBounds i true) s k->mn ops es aE aJ listed s k/\k≠i:=by
        rintro k ⟨ok,ao,av,aC,bs⟩;refine ⟨⟨ok,ao,av,fun h=>aC ((iC h2).2 (.inr h)),bs⟩,fun e=>aC ((iC h2).2 (.inl e))⟩
       refine ⟨na.w,fun b ai=>?_,fun k aD=>?_,fun k bZ aD jG=>na.inj k bZ (sub k aD).1 (sub bZ jG).1⟩
       . by_cases w3:b=an e.h.next
         . subst w3;simp only [Fr.free,apd];rw [<-qD,zw]
         . simp only [Fr.free,ao_ w3];refine na.cr b fun k aD=>?_;by_cases k':k=i
           . subst k';rw [qD];exact fun e=>w3 e.symm
           . obtain ⟨ok,ao,av,aC,bs⟩:=aD;refine ai k ⟨ok,ao,av,fun h=>?_,bs⟩;rcases (iC h2).1 h with h | h
             . exact k' h
             . exact aC h
       . obtain ⟨zg,k'⟩:=sub k aD;have dY:nameAt es aE aJ k≠an e.h.next:=fun e=>k' (na.inj k i zg pN (by rw [e,qD]))
         simp only [Fr.free,ao_ dY];exact na.new k zg
   | false=>
     have BN:gl P o=true:=by unfold gl;rw [nH,b1];rfl
     have Ja:s<=posOf aJ i:=by
      rcases aqc (posOf aJ i) s with h | h
      . exact absurd ((od i o dF BN).2 h) vr
      . exact h
     have zo:=(level nH Ja).1;rw [<-lA,<-zo] at eT;refine sq cP (fL i) (h0 i) dF eT I.size reads sI fun aw x w' ao av aC=>?_;rw [zo] at aC;have ac_:∀k ok,ops[k]? =some ok->jv ok=true->posOf aJ i+1<=posOf aJ k->¬(listed.setIfInBounds i true).getD k false=true:=by
      intro k ok br rI aG h;rcases (iC h2).1 h with rfl | h
      . omega
      . have:=gq k ok br rI h;omega
     have ac1:Holds aB F es aE aJ (mn ops es aE aJ (listed.setIfInBounds i true) (posOf aJ i+1)):=by
      refine na.congr fun k=>?_;rw [Iz (fun h=>by rw [b1] at h;cases h.1)];constructor
      . rintro ⟨ok,cZ,z2,z3,z4⟩;refine ⟨ok,cZ,z2,z3,?_⟩;have rJ:=(ao5.1 cZ).1;have:posOf aJ k≠posOf aJ i:=fun e=>by
         have:=C.vP rJ hS e;subst this;rw [dF] at cZ;cases cZ;rw [b1] at z2;cases z2.1
        omega
      . rintro ⟨ok,cZ,z2,z3,z4⟩;exact ⟨ok,cZ,z2,z3,by omega⟩
     obtain ⟨jX,eZ,g1,g2,g3,g4,g5,g6⟩:=C.advance (N - (posOf aJ i+1)) (posOf aJ i+1) (by omega) ac_ F ac1 aC;refine ey _ _ (after jX eZ aw x w' g1 g3 (fun k ok br k9=>?_) (fun k ok br rI aD=>?_) g5 ao av g6)
     . have rJ:=(ao5.1 br).1;constructor
       . rintro (rfl | h)
         . omega
         . have:=(od k ok br k9).1 h;omega
       . intro h;by_cases k':k=i
         . exact .inl k'
         . refine .inr ((od k ok br k9).2 ?_);rcases aqc (posOf aJ k) s with bM | bM
           . exact bM
           . have dY:posOf aJ k≠posOf aJ i:=fun e=>k' (C.vP rJ hS e);have:=g4 k ok br k9 (by omega);omega
     . rcases aD with rfl | aD
       . omega
       . have:=gq k ok br rI aD;omega
 | false=>
   have b1:jv o=false:=by
    cases h:jv o with
    | false=>rfl
    | true=>rw [aew h] at nH;cases nH
   obtain ⟨c,ax,I'⟩:∃c,(iv P c/\iG P c)/\(eu P aK ops o).run c e.r (dM es aE s)=.val e.v (dM es aE s):=by
    cases hK:looks o.op with
    | false=>exact ⟨_,⟨fL i,h0 i⟩,(Bo nH eT).2 hK _⟩
    | true=>
      obtain ⟨fk,ao,av⟩:=C.ask i o dF hK nH IU;rw [Ex] at ao;cases ao
      obtain ⟨c,af,ax,aC⟩:=av s al (LG (by rw [JO];simp) fun k mk ok ae ag=>by
       simp only [apH];have br:ops[k]? =some ok:=by simpa using ag
       cases BU:gl P ok with
       | false=>rfl
       | true=>
         simp only [apc];cases BV:Nat.blt (posOf aJ k) s with
         | true=>
           rw [apG] at BV;simp only [apc,aqa];cases ai:hI mk i with
           | false=>rfl
           | true=>exact absurd (Qo k mk i ae ai ((od k ok br BU).2 BV)) vr
         | false=>
           have ac9:¬posOf aJ k<s:=by rw [<-Nat.blt_eq,BV];simp
           simp only [apg,aqa,oe,aqr];cases ai:hI ei k with
           | false=>rfl
           | true=>
             by_cases k':k=i
             . subst k';rw [dF] at br;cases br;unfold gl at BU;rw [nH] at BU;cases BU
             . exact absurd ((od k ok br BU).1 (BL k k' ai)) ac9)
      rw [(Bo nH aC).1] at aC;exact ⟨c,ax,aC⟩
   refine sq cP ax.1 ax.2 dF I' I.size reads sI fun aw x w' ao av aC=>ey _ _ (after s F aw x w' al zp (fun k ok br k9=>?_) (fun k ok br rI aD=>?_) (na.congr fun k=>Iz (fun h=>by rw [b1] at h;cases h.1) s k) ao av aC)
   . constructor
     . rintro (rfl | h)
       . rw [dF] at br;cases br;unfold gl at k9;rw [nH] at k9;cases k9
       . exact (od k ok br k9).1 h
     . intro h;exact .inr ((od k ok br k9).2 h)
   . rcases aD with rfl | aD
     . rw [dF] at br;cases br;rw [b1] at rI;cases rI
     . exact gq k ok br rI aD
theorem aaq {D:List Deferred} {aB:Fr} (C:Cert P aK ops calls es aW aL fN aE hj order aJ N M lit) {j3:Env} (Ig:N<=M) {listed:Array Bool} {a:Act} {w:World} (I:uW P aB aK ops es aW aE hj aJ j3 N D listed a w)
 (gq:∀k,k<ops.size->posOf aJ k<N->listed.getD k false=true):∃aw,j3.le aw/\RegRel0 aw aK fN a/\a.defers=D/\bE aB aw aE w:=by
 obtain ⟨E,s,F,eh,al,zp,od,_,na,sI,xm⟩:=I.main;have fb:es[N]? =none:=apv (by rw [C.len];exact ao1 _);have EA:dM es aE N=aE:=by simp [dM,fb]
 have QD:fH es fN N=fN:=by simp [fH,fb]
 have zo:s=N:=by
  rcases C.Tp s al with (h | ⟨h,_⟩) | ⟨k,ok,dr,dZ,hT⟩
  . have:=C.CK;omega
  . exact h
  . rcases aqc s N with a1 | o_
    . have:=(od k ok dr dZ).1 (gq k (ao5.1 dr).1 (by omega));omega
    . omega
 subst zo;have hJ:F=aB:=na.none fun k aD=>by obtain ⟨ok,ao,av,aC,bs⟩:=aD;exact aC (gq k (ao5.1 ao).1 bs)
 subst hJ;rw [EA] at sI;have Em:∀k,posOf aJ k<s->posOf aJ k<M:=fun k h=>by omega
 refine ⟨E,eh,⟨I.size,fun t az=>?_⟩,I.defers,sI⟩;have ad3:∀(k bZ:Nat) (ok mJ:Oper),ops[k]? =some ok->ops[bZ]? =some mJ->posOf aJ k<s->posOf aJ bZ<s->ok.dst=some t->mJ.dst=some t->k=bZ:=by
  intro k bZ ok mJ ae ag bW df ar aT;obtain ⟨mk,_,_,aG⟩:=C.y5 k ok ae;obtain ⟨mk',_,h7,_⟩:=aG (Em k bW) bZ mJ ag (Em bZ df);unfold uw at h7;rw [oW] at h7;by_cases l6:k=bZ
  . exact l6
  . rw [ao_ l6,aT,ar] at h7;simp at h7
 rcases C.KJ s (ao1 _) t az with ⟨k,ok,yU,ao,av,aC,bs,ca⟩ | ⟨ao,av⟩
 . rw [QD] at ca;rcases xm t az with ⟨bZ,mJ,HJ,ck,c0,e2,ke,p9⟩ | ⟨ck,_⟩
   . have:=ad3 k bZ ok mJ av c0 ao (I.u5 bZ ck) aC e2;subst this;rw [bs] at ke;cases ke;rw [ca];exact p9
   . exact absurd aC (ck k ok (gq k (ao5.1 av).1 ao) av)
 . rw [QD] at av;rcases xm t az with ⟨bZ,mJ,HJ,ck,c0,e2,ke,p9⟩ | ⟨_,c0⟩
   . exact absurd e2 (ao bZ mJ (I.u5 bZ ck) c0)
   . rw [av];exact c0
theorem O8 {rd:Option Nat} {D:List Deferred} {aB:Fr} (cP:hn P) (fL:∀i,iv P (calls i)) (h0:∀i,iG P (calls i)) (C:Cert P aK ops calls es aW aL fN aE hj order aJ N M false) {j3:Env} {Q:Exit->Act->World->Prop}
 (b':N=ops.size->∀aw bF w',j3.le aw->RegRel0 aw aK fN bF->bF.defers=D->bE aB aw aE w'->Q .normal bF w')
 (w0:∀aw bF w' x v af,j3.le aw->N<ops.size->ops.size<=M->(∃i0 mb,ops[i0]? =some mb/\posOf aJ i0=N/\(eu P aK ops mb).run (calls i0) fN aE=.f' v af)->RegRel0 aw aK (o2 aW ops.toList) bF->bF.defers=D->Rel aw v x->bE aB aw af w'->Q (.panic (nU x)) bF w')
 (d_:M<ops.size->∀(fuel:Nat) (listed:Array Bool) aw bF w',(List.range ops.size).countP (fun i=>!listed.getD i false)<=fuel->listed.size=ops.size->r_ ops (fun k=>listed.getD k false=true)->(∀k,k<ops.size->(listed.getD k false=true↔posOf aJ k<N))->
   j3.le aw->RegRel0 aw aK fN bF->bF.defers=D->bE aB aw aE w'->wpAnyIn (aq rd) 0 P .any ops Q fuel listed bF w'):∀(fuel:Nat) (listed:Array Bool) (a:Act) (w:World),(List.range ops.size).countP (fun i=>!listed.getD i false)<=fuel->
 uW P aB aK ops es aW aE hj aJ j3 N D listed a w->wpAnyIn (aq rd) 0 P .any ops Q fuel listed a w:=by
 have done:∀(listed:Array Bool) (a:Act) (w:World),uW P aB aK ops es aW aE hj aJ j3 N D listed a w->Region.ready .any ops listed=[]->∀i,i<ops.size->listed.getD i false=true:=by
  intro listed a w I U i
  induction i using Nat.strongRecOn with
  | _ i b6=>
    intro aM;cases h2:listed.getD i false with
    | true=>rfl
    | false=>
      exfalso;have dF:ops[i]? =some ops[i]:=apt aM;obtain ⟨ei,_,nc,_⟩:=C.y5 i _ dF;have:i ∈ Region.ready .any ops listed:=by
       rw [mem_ready];refine ⟨?_,ops[i],dF,fun e he ai=>?_⟩
       . have dS:i<listed.size:=by rw [I.CA];exact aM
         rw [apw,apt dS] at h2 ⊢;exact h2
       . have ae:=apA.1 nc e (aqj.2 he);rw [yM] at ai;rw [ai] at ae;simp only [Bool.not_true,Bool.false_or,apG] at ae;exact b6 e.on ae (by omega)
      rw [U] at this;simp at this
 have Ig:=C.vI;have full:∀(listed:Array Bool) (a:Act) (w:World),uW P aB aK ops es aW aE hj aJ j3 N D listed a w->(∀k,k<ops.size->posOf aJ k<N->listed.getD k false=true)->(N=ops.size\/(M<ops.size/\M=N))->
  ∃aw,j3.le aw/\RegRel0 aw aK fN a/\a.defers=D/\bE aB aw aE w:=fun _ _ _ I gq _=>aaq C Ig I gq
 have finish:∀(listed:Array Bool) (a:Act) (w:World),uW P aB aK ops es aW aE hj aJ j3 N D listed a w->Region.ready .any ops listed=[]->Q .normal a w:=by
  intro listed a w I U;have gq:=done listed a w I U;have P0:N=ops.size:=by
   rcases aqc N ops.size with a1 | o_
   . exfalso;obtain ⟨i,II,tL⟩:=C.mK N a1;have:=I.u5 i (gq i II);omega
   . exact Nat.le_antisymm C.CK o_
  obtain ⟨aw,g1,g2,g3,g4⟩:=full listed a w I (fun k aD _=>gq k aD) (.inl P0);exact b' P0 aw a w g1 g2 g3 g4
 intro fuel
 induction fuel with
 | zero=>
   intro listed a w ax I;have gq:∀i,i<ops.size->listed.getD i false=true:=by
    intro i aM;have aL:(List.range ops.size).countP (fun i=>!listed.getD i false)=0:=by omega
    rw [List.countP_eq_zero] at aL;simpa using aL i (aqB.2 aM)
   have U:Region.ready .any ops listed=[]:=by
    cases aI:Region.ready .any ops listed with
    | nil=>rfl
    | cons j aoh=>
      exfalso;have cY:j ∈ Region.ready .any ops listed:=by rw [aI];simp
      rw [mem_ready] at cY;obtain ⟨ae,o,ag,_⟩:=cY;have:=gq j (ao5.1 ag).1;rw [wX] at this;rw [apw,this] at ae;simp at ae
   exact ⟨U,finish listed a w I U⟩
 | succ fuel b6=>
   intro listed a w ax I;by_cases zs:M<ops.size/\∀k,k<ops.size->posOf aJ k<N->listed.getD k false=true
   . obtain ⟨wZ,gq⟩:=zs;obtain ⟨aw,g1,g2,g3,g4⟩:=full listed a w I gq (.inr ⟨wZ,(C.tail wZ).1⟩);exact d_ wZ (fuel+1) listed aw a w ax I.CA I.down (fun k aD=>⟨I.u5 k,gq k aD⟩) g1 g2 g3 g4
   have adJ:∀i,i ∈ Region.ready .any ops listed->posOf aJ i<M:=by
    intro i aM;have tL:=aM;rw [mem_ready] at tL;obtain ⟨ae,o,ag,w_⟩:=tL;have hS:i<ops.size:=(ao5.1 ag).1;rcases aqc M ops.size with wZ | wZ
    . obtain ⟨Em,zq⟩:=C.tail wZ;rcases aqc (posOf aJ i) N with a1 | o_
      . omega
      . exfalso;refine zs ⟨wZ,fun k aD IL=>?_⟩;obtain ⟨ei,oe,_⟩:=C.y5 i o ag;have ai:=zq i o ei ag o_ oe k aD IL;have za:r_ ops fun k=>listed.getD k false=true\/k=i:=by
         intro k ok e aD br he ai;rcases aD with aD | rfl
         . exact .inl (I.down k ok e aD br he ai)
         . rw [ag] at br;cases br;exact .inl (w_ e (aqj.1 he) (by rw [yM];exact ai))
        rcases CD za ops.toList [] (fun j=>by simp) (fun k m j aD=>by simp at aD) i ei k oe ai (.inr rfl) with h | h
        . exact h
        . subst h;omega
    . have:=(C.ji i hS).1;omega
   refine ⟨fun U=>finish listed a w I U,fun i aM=>?_⟩;refine aaC cP fL h0 C I aM (adJ i aM) (fun h=>by cases h) (fun bF w' UG=>b6 _ bF w' ?_ UG) w0;have tL:=aM;rw [mem_ready] at tL;obtain ⟨ae,o,ag,_⟩:=tL;have hS:i<ops.size:=(ao5.1 ag).1;have h2:i<listed.size:=by rw [I.CA];exact hS
   have vr:listed.getD i false=false:=by rw [apw,apt h2] at ae ⊢;exact ae
   have:=Hz (fun k=>!listed.getD k false) (fun k=>!(listed.setIfInBounds i true).getD k false) (List.range ops.size)
    (fun k _ aD=>by
      simp only [aqa] at aD ⊢;cases aI:listed.getD k false with
      | false=>rfl
      | true=>
        have:=(iC (k:=k) h2).2 (.inr aI);rw [aD] at this;cases this)
    ⟨i,aqB.2 hS,by simp [vr],by have:=(iC (k:=i) h2).2 (.inl rfl);simp [this]⟩
   omega
theorem ah.set_comm (h:ah) {b cp:aO} (dY:b≠cp) (k bZ:c'):(h.set b k).set cp bZ=(h.set cp bZ).set b k:=by unfold ah.set;simp only;rw [T.put_comm _ _ _ _ _ _ (fun e=>dY e.symm)]
theorem F3 {o:Oper} {x:Operand} (h:r7 o=some x):∃t y,o.op=.store t x y/\o.dst=none/\o.guard=none:=by
 unfold r7 at h
 split at h
 case h_2=>cases h
 rename_i t aoP y bJ
 split at h
 case h_2=>cases h
 rename_i a_
 split at h
 case h_2=>cases h
 rename_i ay;cases h;exact ⟨t,y,bJ,a_,ay⟩
theorem agy {h af:ah} {b:aO} {off:Nat} {aj:List V} (he:lay h b off aj=some af):∃k,af=h.set b k/\∀H:ah,H.get b=h.get b->lay H b off aj=some (H.set b k):=by
 unfold lay at he ⊢;cases ay:h.get b<;>rw [ay] at he<;>simp only [c'.on] at he<;>try (cases he;done)
 obtain ⟨ax,ae⟩:=fV he;cases ae;refine ⟨_,rfl,fun H pN=>?_⟩;rw [pN];simp only [c'.on,ax,apc]
theorem O7 {all:Array Oper} {o:Oper} {x:Operand} {call:gA} {r:c4} {h af:ah} {v:V} (au:r7 o=some x) (he:(eu P aK all o).run call r h=.val v af):
 ∃b off k,(dc x).run (gY r (c6 all o))=.ptr b off/\af=h.set b k/\∀H:ah,H.get b=h.get b->(eu P aK all o).run call r H=.val v (H.set b k):=by
 obtain ⟨t,y,bJ,a_,ay⟩:=F3 au;obtain ⟨ae,ag⟩:=nG he;have key:eu P aK all o=⟨lx none (hR P o) (c6 all o)⟩:=by unfold eu;rw [show (hr aK o.dst&&kg (c6 all o))=true from by rw [ae,ag];rfl,ay];rfl
 rw [key] at he ⊢;simp only [lx] at he ⊢;have P_:∀H,(hR P o).run call (gY r (c6 all o)) H=jh .bad ((uD P t).run H ((dc x).run (gY r (c6 all o))) ((dc y).run (gY r (c6 all o)))):=by intro H;unfold hR;rw [bJ]
 rw [P_] at he;cases al:(uD P t).run h ((dc x).run (gY r (c6 all o))) ((dc y).run (gY r (c6 all o))) with
 | none=>rw [al] at he;cases he
 | some ar=>
   rw [al] at he;simp only [jh,bk.val.injEq] at he;obtain ⟨rfl,rfl⟩:=he;unfold uD at al;cases az:bh P t with
   | none=>rw [az] at al;cases al
   | some aS=>
     rw [az] at al;simp only [q'] at al;obtain ⟨b,off,aG,aT⟩:=zZ al;obtain ⟨ax,bC⟩:=fV aT;obtain ⟨k,dr,dZ⟩:=agy bC;refine ⟨b,off,k,aG,dr,fun H pN=>?_⟩;rw [P_];unfold uD;rw [az];simp only [q',aG,V.lK,ax,apc,dZ H pN,jh]
theorem FJ {listed:Array Bool} (nc:∀i o,ops[i]? =some o->sX i o=true) (dS:listed.size=ops.size) (U:Region.ready .any ops listed=[]):∀i,i<ops.size->listed.getD i false=true:=by
 intro i
 induction i using Nat.strongRecOn with
 | _ i b6=>
   intro aM;cases h2:listed.getD i false with
   | true=>rfl
   | false=>
     exfalso;have dF:ops[i]? =some ops[i]:=apt aM;have nc:=nc i _ dF;have:i ∈ Region.ready .any ops listed:=by
      rw [mem_ready];refine ⟨?_,ops[i],dF,fun e he ai=>?_⟩
      . have al:i<listed.size:=by rw [dS];exact aM
        rw [apw,apt al] at h2 ⊢;exact h2
      . have ae:=apA.1 nc e (aqj.2 he);rw [yM] at ai;rw [ai] at ae;simp only [Bool.not_true,Bool.false_or,apG] at ae;exact b6 e.on ae (by omega)
     rw [U] at this;simp at this
theorem C0 {listed:Array Bool} {i:Nat} (anA:listed.size=ops.size) (aM:i ∈ Region.ready .any ops listed):i<ops.size/\¬listed.getD i false=true:=by rw [mem_ready] at aM;obtain ⟨ae,o,ag,_⟩:=aM;refine ⟨(ao5.1 ag).1,fun h=>?_⟩;rw [wX] at h;rw [apw,h] at ae;simp at ae
theorem La {rd:Option Nat} {aB:Fr} (cP:hn P) (fL:iv P call) (h0:iG P call) (nc:∀i o,ops[i]? =some o->sX i o=true) {i:Nat} {o:Oper} (dF:ops[i]? =some o) (a_:o.dst=none) {r:c4} {h af:ah} {v:V}
 (he:(eu P aK ops o).run call r h=.val v af) {Q:Exit->Act->World->Prop} {E:Env} {a:Act} {w:World} (k:kJ E aK r a) (s:bE aB E h w) (b':∀aw w',E.le aw->bE aB aw af w'->Q .normal a w')
 {listed:Array Bool} (dS:listed.size=ops.size) (gq:∀j,j<ops.size->(listed.getD j false=true↔j≠i)) (fuel:Nat) (aE:1<=fuel):wpAnyIn (aq rd) 0 P .any ops Q fuel listed a w:=by
 have hS:i<ops.size:=(ao5.1 dF).1;have h2:i<listed.size:=by rw [dS];exact hS
 cases fuel with
 | zero=>omega
 | succ fuel=>
   refine ⟨fun U=>absurd (FJ nc dS U i hS) (fun h=>((gq i hS).1 h) rfl),fun j cY=>?_⟩;obtain ⟨vy,uc⟩:=C0 dS cY;have ac7:j=i:=by
    rcases Nat.decEq j i with dY | he
    . exact absurd ((gq j vy).2 dY) uc
    . exact he
   subst ac7;refine sq cP fL h0 dF he k.size (fun t az=>k.cz t (apF (apA.1 (nG he).2 t az))) s fun aw x w' ao av aC=>?_;rw [a_];refine wpAnyIn_done ?_ (b' aw w' ao aC) fuel;cases U:Region.ready .any ops (listed.setIfInBounds j true) with
   | nil=>rfl
   | cons m ms=>
     exfalso;have hm:m ∈ Region.ready .any ops (listed.setIfInBounds j true):=by rw [U];simp
     obtain ⟨m1,m2⟩:=C0 (by simp [dS]) hm;refine m2 ((iC h2).2 ?_);by_cases Qp:m=j
     . exact .inl Qp
     . exact .inr ((gq m m1).2 Qp)
theorem al1 {rd:Option Nat} {aB:Fr} (cP:hn P) (fL:iv P call) (h0:iG P call) (nc:∀i o,ops[i]? =some o->sX i o=true) {i j:Nat} {o p:Oper} (dF:ops[i]? =some o) (tM:ops[j]? =some p) (zf:i≠j) (a_:o.dst=none) (og:p.dst=none)
 {r:c4} {h ae ks ag:ah} {v ez u fy:V} (he:(eu P aK ops o).run call r h=.val v ae) (aG:(eu P aK ops p).run call r ae=.val u ag) (nd:(eu P aK ops p).run call r h=.val fy ks) (gW:(eu P aK ops o).run call r ks=.val ez ag)
 {Q:Exit->Act->World->Prop} {E:Env} {a:Act} {w:World} (k:kJ E aK r a) (s:bE aB E h w) (b':∀aw w',E.le aw->bE aB aw ag w'->Q .normal a w')
 {listed:Array Bool} (dS:listed.size=ops.size) (gq:∀m,m<ops.size->(listed.getD m false=true↔(m≠i/\m≠j))) (fuel:Nat) (aE:2<=fuel):wpAnyIn (aq rd) 0 P .any ops Q fuel listed a w:=by
 have hS:i<ops.size:=(ao5.1 dF).1;have IJ:j<ops.size:=(ao5.1 tM).1;have mE:∀{q:Oper} {H km:ah} {z:V},(eu P aK ops q).run call r H=.val z km->∀t ∈ c6 ops q,Rel E (T.get .bad (an t) r) (a.tmps.getD t undef):=
  fun he t az=>k.cz t (apF (apA.1 (nG he).2 t az))
 cases fuel with
 | zero=>omega
 | succ fuel=>
   refine ⟨fun U=>absurd (FJ nc dS U i hS) (fun h=>((gq i hS).1 h).1 rfl),fun m hm=>?_⟩;obtain ⟨m1,m2⟩:=C0 dS hm;have lB:m=i\/m=j:=by
    rcases Nat.decEq m i with dY | he
    . rcases Nat.decEq m j with adp | fr
      . exact absurd ((gq m m1).2 ⟨dY,adp⟩) m2
      . exact .inr fr
    . exact .inl he
   rcases lB with rfl | rfl
   . refine sq cP fL h0 dF he k.size (mE he) s fun aw x w' ao av aC=>?_;rw [a_];have h2:m<listed.size:=by rw [dS];exact hS
     refine La cP fL h0 nc tM og aG (k.mono ao) aC (fun bY aQ ck c0=>b' bY aQ (ao.trans ck) c0) (by simp [dS]) (fun z bN=>?_) fuel (by omega);rw [iC h2,gq z bN];constructor
     . rintro (rfl | h)
       . exact zf
       . exact h.2
     . intro h;by_cases Ch:z=m
       . exact .inl Ch
       . exact .inr ⟨Ch,h⟩
   . refine sq cP fL h0 tM nd k.size (mE nd) s fun aw x w' ao av aC=>?_;rw [og];have h2:m<listed.size:=by rw [dS];exact IJ
     refine La cP fL h0 nc dF a_ gW (k.mono ao) aC (fun bY aQ ck c0=>b' bY aQ (ao.trans ck) c0) (by simp [dS]) (fun z bN=>?_) fuel (by omega);rw [iC h2,gq z bN];constructor
     . rintro (rfl | h)
       . exact fun e=>zf e.symm
       . exact h.1
     . intro h;by_cases Ch:z=m
       . exact .inl Ch
       . exact .inr ⟨h,Ch⟩
theorem TY {rd:Option Nat} {id:Nat} {a:Act} {w:World} {Q:Exit->Act->World->Prop} (hm:P.follows .mixedOrders=true)
 (h:wpAnyIn (aq rd) 0 P .any ops Q ops.size (Array.replicate ops.size false) a {w with drawn:=w.drawn+1}):(Code.region id ops true).wpIn (aq rd) 0 P Q a w:=by
 refine wpIn_region_draw fun t=>?_;rw [hm];exact wpAnyIn_sound _ _ _ _ _ h
theorem Lk {r bq:c4}:∀{rs:List Nat},(∀t ∈ rs,T.get .bad (an t) bq=T.get .bad (an t) r)->gY bq rs=gY r rs
 | [],_=>rfl
 | t::dD,h=>by simp only [gY];rw [h t (by simp),Lk (rs:=dD) fun u hu=>h u (by simp [hu])]
theorem aaw {all:Array Oper} {o:Oper} {call:gA} {r bq:c4} (h:∀t ∈ c6 all o,T.get .bad (an t) bq=T.get .bad (an t) r) (H:ah):(eu P aK all o).run call bq H=(eu P aK all o).run call r H:=by
 unfold eu;cases ax:(hr aK o.dst&&kg (c6 all o)) with
 | false=>rfl
 | true=>
   simp only [apc];cases ay:o.guard with
   | none=>simp only [lx,Lk h]
   | some ud=>
     obtain ⟨j,want⟩:=ud;simp only;cases all[j]? with
     | none=>rfl
     | some g=>
       simp only;cases g.dst with
       | none=>rfl
       | some d=>
         simp only;cases (Nat.blt d aK&&Nat.ble d top) with
         | false=>rfl
         | true=>simp only [apc,lx,Lk h]
theorem al0 {rd:Option Nat} {aB:Fr} (cP:hn P) (fL:iv P call) (h0:iG P call) (nc:∀i o,ops[i]? =some o->sX i o=true) {l i j:Nat} {b o p:Oper} (tQ:ops[l]? =some b) (dF:ops[i]? =some o) (tM:ops[j]? =some p)
 (h2:l≠i) (Qk:l≠j) (zf:i≠j) (a_:o.dst=none) (og:p.dst=none) {r cL:c4} {h ae ks ag:ah} {z v ez u fy:V}
 (ai:∀H,(eu P aK ops b).run call r H=.val z H) (QA:cL=(kE b.dst).run r z) (zn:∀t ∈ c6 ops p,T.get .bad (an t) cL=T.get .bad (an t) r)
 (he:(eu P aK ops o).run call cL h=.val v ae) (aG:(eu P aK ops p).run call cL ae=.val u ag) (nd:(eu P aK ops p).run call cL h=.val fy ks) (gW:(eu P aK ops o).run call cL ks=.val ez ag)
 {Q:Exit->Act->World->Prop} {E:Env} {a:Act} {w:World} (k:kJ E aK r a) (s:bE aB E h w) (b':∀aw bF w',E.le aw->kJ aw aK cL bF->bE aB aw ag w'->Q .normal bF w')
 {listed:Array Bool} (dS:listed.size=ops.size) (BI:r_ ops fun k=>listed.getD k false=true) (ad9:∀ei,(gm [] ops.toList)[i]? =some ei->hI ei l=true) (oe:∃ei,(gm [] ops.toList)[i]? =some ei)
 (gq:∀m,m<ops.size->(listed.getD m false=true↔(m≠l/\m≠i/\m≠j))) (fuel:Nat) (aE:3<=fuel):wpAnyIn (aq rd) 0 P .any ops Q fuel listed a w:=by
 have EE:l<ops.size:=(ao5.1 tQ).1;have hS:i<ops.size:=(ao5.1 dF).1;have IJ:j<ops.size:=(ao5.1 tM).1;have mE:∀{E:Env} {a:Act} {q:Oper} {R:c4} {H km:ah} {z:V},kJ E aK R a->(eu P aK ops q).run call R H=.val z km->∀t ∈ c6 ops q,Rel E (T.get .bad (an t) R) (a.tmps.getD t undef):=
  fun k he t az=>k.cz t (apF (apA.1 (nG he).2 t az))
 have RR:∀(L:Array Bool),(r_ ops fun k=>L.getD k false=true)->¬L.getD l false=true->i ∈ Region.ready .any ops L->False:=by
  intro L ab9 vq sE;rw [mem_ready] at sE;obtain ⟨_,dT,jt,w_⟩:=sE;rw [dF] at jt;cases jt;obtain ⟨ei,oe⟩:=oe;have za:r_ ops fun k=>L.getD k false=true\/k=i:=by
   intro k ok e aD br he ai;rcases aD with aD | rfl
   . exact .inl (ab9 k ok e aD br he ai)
   . rw [dF] at br;cases br;exact .inl (w_ e (aqj.1 he) (by rw [yM];exact ai))
  rcases CD za ops.toList [] (fun j=>by simp) (fun k m j aD=>by simp at aD) i ei l oe (ad9 ei oe) (.inr rfl) with h | h
  . exact vq h
  . exact h2 h
 have aay:∀m,m ∈ Region.ready .any ops listed->r_ ops fun k=>(listed.setIfInBounds m true).getD k false=true:=by
  intro m hm k ok e aD br he ai;have ff:=hm;rw [mem_ready] at ff;obtain ⟨_,aox,Qu,w_⟩:=ff;have adj:m<listed.size:=by rw [dS];exact (ao5.1 Qu).1
  rw [iC adj] at aD ⊢;rcases aD with rfl | aD
  . rw [Qu] at br;cases br;exact .inr (w_ e (aqj.1 he) (by rw [yM];exact ai))
  . exact .inr (BI k ok e aD br he ai)
 cases fuel with
 | zero=>omega
 | succ fuel=>
   refine ⟨fun U=>absurd (FJ nc dS U i hS) (fun h=>((gq i hS).1 h).2.1 rfl),fun m hm=>?_⟩;obtain ⟨m1,m2⟩:=C0 dS hm;have lB:m=l\/m=j:=by
    rcases Nat.decEq m l with fZ | aP
    . rcases Nat.decEq m j with lI | bu
      . rcases Nat.decEq m i with n3 | cT
        . exact absurd ((gq m m1).2 ⟨fZ,n3,lI⟩) m2
        . subst cT;exact (RR listed BI (fun h=>((gq l EE).1 h).1 rfl) hm).elim
      . exact .inr bu
    . exact .inl aP
   rcases lB with rfl | rfl
   . -- p first
     have l7:m<listed.size:=by rw [dS];exact EE
     refine sq cP fL h0 tQ (ai h) k.size (mE k (ai h)) s fun aw x w' ao av aC=>?_;have dr:kJ aw aK cL (a.put b.dst x):=by rw [QA];exact (k.mono ao).put (nG (ai h)).1 av
     refine al1 cP fL h0 nc dF tM zf a_ og he aG nd gW dr aC (fun bY aQ ck c0=>b' bY _ aQ (ao.trans ck) (dr.mono ck) c0) (by simp [dS]) (fun y bm=>?_) fuel (by omega);rw [iC l7,gq y bm];constructor
     . rintro (rfl | h)
       . exact ⟨h2,Qk⟩
       . exact h.2
     . intro h;by_cases Cg:y=m
       . exact .inl Cg
       . exact .inr ⟨Cg,h⟩
   . -- q first
     have l7:m<listed.size:=by rw [dS];exact IJ
     have zm:(eu P aK ops p).run call r h=.val fy ks:=by rw [<-aaw zn];exact nd
     have ab':=aay m hm;refine sq cP fL h0 tM zm k.size (mE k zm) s fun aw x w' ao av aC=>?_;rw [og];have Cc:(listed.setIfInBounds m true).size=ops.size:=by simp [dS]
     cases fuel with
     | zero=>omega
     | succ fuel=>
       refine ⟨fun U=>absurd (FJ nc Cc U i hS) (fun h=>?_),fun y bm=>?_⟩
       . rcases (iC l7).1 h with e | h
         . exact zf e
         . exact ((gq i hS).1 h).2.1 rfl
       obtain ⟨e5,fJ⟩:=C0 Cc bm;have aec:y=l:=by
        rcases Nat.decEq y l with fZ | aP
        . rcases Nat.decEq y i with n3 | cT
          . exfalso;refine fJ ((iC l7).2 ?_);by_cases Cg:y=m
            . exact .inl Cg
            . exact .inr ((gq y e5).2 ⟨fZ,n3,Cg⟩)
          . subst cT;refine (RR _ ab' (fun h=>?_) bm).elim;rcases (iC l7).1 h with e | h
            . exact Qk e
            . exact ((gq l EE).1 h).1 rfl
        . exact aP
       subst aec;have bZ:=k.mono ao;refine sq cP fL h0 tQ (ai ks) bZ.size (mE bZ (ai ks)) aC fun bY fz aQ t1 t2 t3=>?_;have dr:kJ bY aK cL (a.put b.dst fz):=by rw [QA];exact (bZ.mono t1).put (nG (ai h)).1 t2
       have IV:y < (listed.setIfInBounds m true).size:=by rw [Cc];exact EE
       refine La cP fL h0 nc dF a_ gW dr t3 (fun fT eI ck c0=>b' fT _ eI (ao.trans (t1.trans ck)) (dr.mono ck) c0) (by simp [dS]) (fun g ay=>?_) fuel (by omega);rw [iC IV,iC l7,gq g ay];constructor
       . rintro (rfl | rfl | h)
         . exact h2
         . exact fun e=>zf e.symm
         . exact h.2.1
       . intro h;by_cases aP:g=y
         . exact .inl aP
         . by_cases bu:g=m
           . exact .inr (.inl bu)
           . exact .inr (.inr ⟨aP,h,bu⟩)
theorem aaB {rd:Option Nat} {aB:Fr} {E:Env} {h:ah} {w:World} {id:Nat} (fE:P.follows .mixedOrders=true) (cP:hn P) (fL:iv P call) (h0:iG P call) {r:c4} {a:Act}
 {Q:Exit->Act->World->Prop} (k:kJ E aK r a) (s:bE aB E h w) {es:List iw} {dN:c4} {bM:ah} {order aJ hj:List Nat} {N M:Nat} (C:Cert P aK ops (fun _=>call) es r h dN bM hj order aJ N M false)
 (b':N=ops.size->∀aw bF w',E.le aw->kJ aw aK dN bF->bE aB aw bM w'->Q .normal bF w')
 (w0:∀aw bF w' x v af,E.le aw->N<ops.size->ops.size<=M->(∃i0 mb,ops[i0]? =some mb/\posOf aJ i0=N/\(eu P aK ops mb).run call dN bM=.f' v af)->kJ aw aK (o2 r ops.toList) bF->Rel aw v x->bE aB aw af w'->Q (.panic (nU x)) bF w')
 (d_:M<ops.size->∀(fuel:Nat) (listed:Array Bool) aw bF w',(List.range ops.size).countP (fun i=>!listed.getD i false)<=fuel->listed.size=ops.size->r_ ops (fun k=>listed.getD k false=true)->(∀k,k<ops.size->(listed.getD k false=true↔posOf aJ k<N))->
   E.le aw->kJ aw aK dN bF->bE aB aw bM w'->wpAnyIn (aq rd) 0 P .any ops Q fuel listed bF w'):
 (Code.region id ops true).wpIn (aq rd) 0 P Q a w:=by
 have fb:∀k,¬(Array.replicate ops.size false).getD k false=true:=by
  intro k;rw [wX,Array.getElem?_replicate]
  split<;>simp
 have na:Holds aB aB es bM aJ (mn ops es bM aJ (Array.replicate ops.size false) 0):=
  ⟨rfl,fun _ _=>rfl,fun k aD=>(by obtain ⟨_,_,_,_,aL⟩:=aD;omega),fun k bZ aD=>(by obtain ⟨_,_,_,_,aL⟩:=aD;omega)⟩
 obtain ⟨jX,eZ,g1,g2,g3,g4,g5,g6⟩:=C.advance N 0 (by omega) (fun k o _ _ _=>fb k) aB na (E:=E) (w:={w with drawn:=w.drawn}) (by rw [C.aL];exact s.same rfl rfl rfl rfl);have rG:∀(aw:Env) (bF:Act),E.le aw->bF.defers=a.defers->∀(bq:c4),T.get .bad mu bq=T.get .bad mu r->pF aw (T.get .bad mu bq) bF.defers:=fun aw bF he a_ bq qF=>by rw [qF,a_];exact k.defers.mono he
 have Qa:T.get .bad mu dN=T.get .bad mu r:=by have:=C.O_ N (ao1 _);have adq:es[N]? =none:=apv (by rw [C.len];exact ao1 _);simpa [fH,adq] using this
 refine TY fE (O8 cP (fun _=>fL) (fun _=>h0) C (j3:=E) (D:=a.defers)
  (fun aF aw bF w' ao av aC bs=>b' aF aw bF w' ao ⟨av,rG aw bF ao aC dN Qa⟩ bs)
  (fun aw bF w' x v af ao av SF aC bs ca cD dy=>w0 aw bF w' x v af ao av SF aC ⟨bs,rG aw bF ao ca _ D7⟩ cD dy)
  (fun g0 fuel listed aw bF w' g1 g2 g3 g4 ao av aC bs=>d_ g0 fuel listed aw bF w' g1 g2 g3 g4 ao ⟨av,rG aw bF ao aC dN Qa⟩ bs) ops.size _ a _ ?_ ?_)
 . exact ao6 List.countP_le_length (by simp)
 . refine ⟨by simp,k.size,rfl,fun bZ aD=>absurd aD (fb bZ),fun bZ o e aD=>absurd aD (fb bZ),E,jX,eZ,Env.le.refl E,g1,g3,fun bZ o ae ag=>⟨fun h=>absurd h (fb bZ),fun h=>by have:=g4 bZ o ae ag (api _);omega⟩,
    fun bZ o _ _ h=>absurd h (fb bZ),g5,?_,fun t az=>.inr ⟨fun bZ o aD=>absurd aD (fb bZ),k.cz t az⟩⟩
   exact g6.same rfl rfl rfl rfl
theorem Ku {n:Nat} {order aJ:List Nat} (sH:vO n order aJ=true):order.length=n/\(∀k,k<n->posOf aJ k<n/\order[posOf aJ k]? =some k)/\∀p,p<n->∃i,i<n/\posOf aJ i=p:=by
 unfold vO at sH;simp only [ao7,apz] at sH;obtain ⟨sG,vs,adv,adw⟩:=sH;refine ⟨sG,fun k aD=>?_,fun p aG=>?_⟩
 . have ay:aJ[k]? =some (posOf aJ k):=by
    unfold posOf;rw [ao3 (by omega)];rfl
   have:=Kt adv ay;rw [apH] at this;exact ⟨by have:=(apL.1 this).1;omega,this⟩
 . have ay:order[p]? =some (order[p]'(by omega)):=ao3 (by omega);have:=Kt adw ay;rw [apH] at this;refine ⟨order[p]'(by omega),by have:=(apL.1 this).1;omega,?_⟩;unfold posOf;rw [this];rfl
theorem Tr {order aJ:List Nat} (aE:As P ops order aJ=true):3<=ops.size/\∀i o,ops[i]? =some o->∃ei,(gm [] ops.toList)[i]? =some ei/\sX i o=true/\
 (posOf aJ i<ops.size-3->∀k ok,ops[k]? =some ok->posOf aJ k<ops.size-3->∃mk,(gm [] ops.toList)[k]? =some mk/\uw i ei (c6 ops o) o.dst k mk ok (Nat.blt (posOf aJ k) (posOf aJ i))=true/\(ij P o.op=true->gl P ok=true->posOf aJ k<posOf aJ i->hI ei k=true))/\
 (¬posOf aJ i<ops.size-3->F6 P ops order aJ (ops.size-3) i ei o=true):=by
 unfold As at aE;simp only [ao7,apn] at aE;refine ⟨aE.1,fun i o aM=>?_⟩;obtain ⟨ei,ae,ag⟩:=uU aE.2 i o (by simpa using aM);simp only [apH,ao7] at ag;refine ⟨ei,ae,ag.1,fun a1 k ok aD rJ=>?_,fun o_=>?_⟩
 . have ar:=ag.2;rw [show Nat.blt (posOf aJ i) (ops.size-3)=true from by rw [apG];exact a1] at ar;simp only [apc] at ar;obtain ⟨mk,dr,dZ⟩:=uU ar k ok (by simpa using aD);simp only [apH] at dZ;rw [show Nat.blt (posOf aJ k) (ops.size-3)=true from by rw [apG];exact rJ] at dZ;simp only [apc,ao7] at dZ;refine ⟨mk,dr,dZ.1,fun aP bu a1=>?_⟩;have hT:=dZ.2;rw [aP,bu,aqk,show Nat.blt (posOf aJ k) (posOf aJ i)=true from by rw [apG];exact a1] at hT;exact hT
 . have ar:=ag.2;rw [show Nat.blt (posOf aJ i) (ops.size-3)=false from by rw [<-Bool.not_eq_true,apG];exact o_] at ar;exact ar
theorem Ts {order aJ:List Nat} {N i ei p:Nat} {o Fy:Oper} (aG:order[N]? =some p) (xk:ops[p]? =some Fy) (h:F6 P ops order aJ N i ei o=true):
 (∀k,k<ops.size->posOf aJ k<N->hI ei k=true)/\(posOf aJ i=N->ij P o.op=false/\looks o.op=false)/\(posOf aJ i≠N->∃x,r7 o=some x)/\
 (posOf aJ i=N+1->hI ei p=true)/\(posOf aJ i=N+2->∀t ∈ c6 ops o,Fy.dst≠some t):=by
 unfold F6 at h;rw [aG] at h;simp only [ao7] at h;obtain ⟨⟨ae,ag⟩,ar,aT⟩:=h;refine ⟨fun k aD IL=>?_,fun e=>?_,fun e=>?_,fun e=>?_,fun e t az=>?_⟩
 . obtain ⟨mk,dr,dZ⟩:=uU ae k ops[k] (by simp);simp only [apH] at dZ;rw [show Nat.blt (posOf aJ k) N=true from by rw [apG];exact IL] at dZ;exact dZ
 . rw [oW,ape e] at ag;simpa using ag
 . rw [oW,ao_ e] at ag;exact Option.isSome_iff_exists.1 ag
 . rw [oW,ape e] at ar;exact ar
 . rw [oW,ape e,xk] at aT;simp only at aT;intro a_;rw [a_] at aT;simp only [aqa] at aT;rw [show (c6 ops o).contains t=true from by simpa using az] at aT;cases aT
theorem Iv {es:List iw} {bM:ah} {N p:Nat} (aG:p<=N):dM (es.take N) (dM es bM N) p=dM es bM p:=by
 by_cases h:p<N
 . cases he:es[p]? with
   | some e=>simp [dM,h,he]
   | none=>
     have aF:es[N]? =none:=apv (by have:=List.getElem?_eq_none_iff.1 he;omega);simp [dM,h,he,aF]
 . have:p=N:=by omega
   subst this;simp [dM,List.getElem?_take]
theorem SR {es:List iw} {dN:c4} {N p:Nat} (aG:p<=N):fH (es.take N) (fH es dN N) p=fH es dN p:=by
 by_cases h:p<N
 . cases he:es[p]? with
   | some e=>simp [fH,h,he]
   | none=>
     have aF:es[N]? =none:=apv (by have:=List.getElem?_eq_none_iff.1 he;omega);simp [fH,h,he,aF]
 . have:p=N:=by omega
   subst this;simp [fH,List.getElem?_take]
theorem VV {order:List Nat} {es:List iw} {N i j:Nat} {o p:Oper} {e f:iw} {x y:Operand} (b1:A2 ops order es N=true) (aM:order[N]? =some i) (cY:order[N+1]? =some j) (dF:ops[i]? =some o) (tM:ops[j]? =some p)
 (he:es[N]? =some e) (aE:es[N+1]? =some f) (au:r7 o=some x) (bm:r7 p=some y) {b c:aO} {off pr:Nat} (ai:(dc x).run (gY e.r (c6 ops o))=.ptr b off) (ax:(dc y).run (gY f.r (c6 ops p))=.ptr c pr):b≠c:=by
 unfold A2 Ar at b1;simp only [aM,cY,dF,tM,he,aE,au,bm,ai,ax] at b1;intro h;subst h;rw [aO.D5] at b1;cases b1
theorem alZ {rd:Option Nat} {aB:Fr} {E:Env} {h:ah} {w:World} {id:Nat} (fE:P.follows .mixedOrders=true) (cP:hn P) (fL:iv P call) (h0:iG P call) {r:c4} {a:Act} {order aJ:List Nat} (sH:vO ops.size order aJ=true) (ih:As P ops order aJ=true)
 {Q:Exit->Act->World->Prop} {es:List iw} {dN:c4} {bM:ah} (hlen:es.length=ops.size) (av:dM es bM 0=h) (aC:fH es dN 0=r)
 (bs:∀j o,(jV ops order)[j]? =some o->∃e,es[j]? =some e/\(eu P aK ops o).run call e.r e.h=.val e.v (dM es bM (j+1))/\fH es dN (j+1)=(kE o.dst).run e.r e.v)
 (Er:A2 ops order es (ops.size-3+1)=true)
 (oa:∀j o,ops[j]? =some o->looks o.op=true->ij P o.op=false->∀e,(es.take (ops.size-3))[posOf aJ j]? =some e->∀s ∈ jI P aJ 0 ops.toList,
   vG P (gm [] ops.toList) ops.toList aJ j (((gm [] ops.toList)[j]?).getD 0) s=true->∃af,(eu P aK ops o).run call e.r (dM (es.take (ops.size-3)) (dM es bM (ops.size-3)) s)=.val e.v af)
 (aG:∀aw bF w',E.le aw->kJ aw aK dN bF->bE aB aw bM w'->Q .normal bF w') (k:kJ E aK r a) (s:bE aB E h w):(Code.region id ops true).wpIn (aq rd) 0 P Q a w:=by
 obtain ⟨sG,ji,mK⟩:=Ku sH;obtain ⟨ag,ih⟩:=Tr ih;obtain ⟨N,acg⟩:∃N,N=ops.size-3:=⟨_,rfl⟩;rw [<-acg] at ih Er oa;have inj:∀i j,i<ops.size->j<ops.size->posOf aJ i=posOf aJ j->i=j:=by intro i j aM cY he;have a:=(ji i aM).2;have b:=(ji j cY).2;rw [he,b] at a;cases a;rfl
 obtain ⟨ni,vj,zb⟩:=mK N (by omega);obtain ⟨qI,y',y_⟩:=mK (N+1) (by omega);obtain ⟨sK,BF,BG⟩:=mK (N+2) (by omega);have BS:ops[ni]? =some ops[ni]:=apt vj;have EB:ops[qI]? =some ops[qI]:=apt y';have EC:ops[sK]? =some ops[sK]:=apt BF;have I4:=(ji ni vj).2;have I2:=(ji qI y').2;have I3:=(ji sK BF).2;rw [zb] at I4;rw [y_] at I2;rw [BG] at I3;have zq:∀i o,ops[i]? =some o->¬posOf aJ i<N->∃ei,(gm [] ops.toList)[i]? =some ei/\(∀k,k<ops.size->posOf aJ k<N->hI ei k=true)/\(posOf aJ i=N->ij P o.op=false/\looks o.op=false)/\(posOf aJ i≠N->∃x,r7 o=some x)/\
  (posOf aJ i=N+1->hI ei ni=true)/\(posOf aJ i=N+2->∀t ∈ c6 ops o,ops[ni].dst≠some t):=by
  intro i o aM o_;obtain ⟨ei,cZ,_,_,z4⟩:=ih i o aM;exact ⟨ei,cZ,Ts I4 BS (z4 o_)⟩
 obtain ⟨aoo,_,_,alX,_⟩:=zq ni _ BS (by omega);obtain ⟨E',Qn,_,_,alV,aa,_⟩:=zq qI _ EB (by omega);obtain ⟨aon,an_,_,_,alW,_,KG⟩:=zq sK _ EC (by omega);obtain ⟨Pd,ag'⟩:=alX zb;obtain ⟨aoT,Jm⟩:=alV (by omega);obtain ⟨aoU,Jn⟩:=alW (by omega);have aa:=aa y_;have KG:=KG BG;obtain ⟨HI,iR,xC,Cp⟩:=bs _ _ (q0 I4 BS);obtain ⟨wO,cM,a2,a3⟩:=bs _ _ (q0 I2 EB);obtain ⟨Pb,bW,df,ic⟩:=bs _ _ (q0 I3 EC);obtain ⟨aoD,aoY,ah2,OQ,anN⟩:=F3 Jm;obtain ⟨aoE,aoZ,aot,OR,anO⟩:=F3 Jn;have fb:es[N+2+1]? =none:=apv (by omega);have ac':dM es bM (N+2+1)=bM:=by simp [dM,fb]
 have akT:fH es dN (N+2+1)=dN:=by simp [fH,fb]
 have acf:dM es bM N=HI.h:=by simp [dM,iR]
 have akw:fH es dN N=HI.r:=by simp [fH,iR]
 have acd:dM es bM (N+1)=wO.h:=by simp [dM,cM]
 have aku:fH es dN (N+1)=wO.r:=by simp [fH,cM]
 have ace:dM es bM (N+1+1)=Pb.h:=by simp [dM,bW]
 have akv:fH es dN (N+1+1)=Pb.r:=by simp [fH,bW]
 rw [aku] at Cp;rw [acd] at xC;rw [OQ,akv] at a3;rw [OR,akT] at ic;simp only [kE] at a3 ic;rw [ace] at a2;rw [ac'] at df;obtain ⟨aca,Ie⟩:=Bo Pd xC;have Ie:=Ie ag';obtain ⟨Mu,aou,aeC,ajb,S9,amw⟩:=O7 Jm a2;obtain ⟨G5,aov,Q2,ajc,ak5,amx⟩:=O7 Jn df;have dY:Mu≠G5:=VV Er I2 I3 EB EC cM bW Jm Jn ajb ajc;have Ib:=amx wO.h (by rw [S9,ah.eC,ao_ dY]);have Ia:=amw (wO.h.set G5 Q2) (by rw [ah.eC,ao_ (fun e=>dY e.symm)]);have acE:(wO.h.set G5 Q2).set Mu aeC=bM:=by rw [ah.set_comm _ (fun e=>dY e.symm),<-S9,<-ak5]
 rw [acE] at Ia;rw [a3] at Ib df;have oi:dN=wO.r:=ic.trans a3;have adm:∀m,m<ops.size->(posOf aJ m<N↔(m≠ni/\m≠qI/\m≠sK)):=by
  intro m hm;have aod:=(ji m hm).1;constructor
  . intro h;exact ⟨fun e=>by subst e;omega,fun e=>by subst e;omega,fun e=>by subst e;omega⟩
  . rintro ⟨jS,fZ,lI⟩;have qw:posOf aJ m≠N:=fun e=>jS (inj m ni hm vj (by rw [e,zb]));have ch:posOf aJ m≠N+1:=fun e=>fZ (inj m qI hm y' (by rw [e,y_]));have c8:posOf aJ m≠N+2:=fun e=>lI (inj m sK hm BF (by rw [e,BG]));omega
 have acC:gl P ops[qI]=true:=by unfold gl jv;rw [ah2];rfl
 have zn:∀t ∈ c6 ops ops[sK],T.get .bad (an t) wO.r=T.get .bad (an t) HI.r:=by intro t az;have zt:t<=top:=apF (apA.1 (nG df).2 t az);rw [Cp,PQ (nG xC).1 zt,ao_ (KG t az)]
 have ka:∀i o,ops[i]? =some o->posOf aJ i<N->∃e,(es.take N)[posOf aJ i]? =some e/\(eu P aK ops o).run call e.r e.h=.val e.v (dM (es.take N) (dM es bM N) (posOf aJ i+1))/\fH (es.take N) (fH es dN N) (posOf aJ i+1)=(kE o.dst).run e.r e.v:=by
  intro i o bJ aM;obtain ⟨e,cZ,z2,z3⟩:=bs _ o (q0 (ji i (ao5.1 bJ).1).2 bJ);refine ⟨e,by simp [aM,cZ],?_,?_⟩
  . rw [Iv (by omega)];exact z2
  . rw [SR (by omega)];exact z3
 have C:Cert P aK ops (fun _=>call) (es.take N) r h (fH es dN N) (dM es bM N) (N::jI P aJ 0 ops.toList) order aJ N N false:=
  ⟨by simp [hlen];omega,by omega,ao1 _,ji,mK,by rw [Iv (api _)];exact av,by rw [SR (api _)];exact aC,ka,
    fun i o bJ=>by
     obtain ⟨ei,cZ,z2,z3,_⟩:=ih i o bJ
     exact ⟨ei,cZ,z2,fun aM k ok aD IK=>by
      obtain ⟨mk,e5,fJ,y3⟩:=z3 aM k ok aD IK
      exact ⟨mk,e5,fJ,fun a b c=>.inl (y3 a b c)⟩⟩,
    by simp,
    fun j o ae ag=>apQ _ (by simpa using E4 (aJ:=aJ) (i:=0) (j:=j) (l:=ops.toList) (by simpa using ae) ag),
    fun s al=>by
     rcases apy.1 al with rfl | al
     . exact .inl (.inr ⟨rfl,rfl⟩)
     . rcases E5 al with h | ⟨j,o,ae,ag,ar⟩
       . exact .inl (.inl (by simpa using h))
       . exact .inr ⟨j,o,by simpa using ae,ag,by simpa using ar⟩,
    fun j o ae ag ar aT=>by
     obtain ⟨e,g1,_⟩:=ka j o ae aT;have QJ:=oa j o ae ag ar e g1;refine ⟨e,g1,fun s al hm=>?_⟩;rcases apy.1 al with rfl | al
     . have EF:vG P (gm [] ops.toList) ops.toList aJ j (((gm [] ops.toList)[j]?).getD 0) (s+1)=true:=by
        unfold vG at hm ⊢;refine LG (by rw [JO];simp) fun dL mk ok e5 fJ=>?_;obtain ⟨mk',dp,fz⟩:=uU hm dL ok fJ;rw [e5] at dp;cases dp;simp only [apH] at fz ⊢;have br:ops[dL]? =some ok:=by simpa using fJ
        have rJ:=(ao5.1 br).1;by_cases BV:posOf aJ dL=s
        . have:dL=ni:=inj dL ni rJ vj (by rw [BV,zb]);subst this;rw [BS] at br;cases br;have EG:gl P ops[dL]=false:=by unfold gl;rw [Pd];rfl
          rw [EG];rfl
        . have:Nat.blt (posOf aJ dL) (s+1)=Nat.blt (posOf aJ dL) s:=by
           rw [apR,apG,apG];omega
          rw [this];exact fz
       have sE:s+1 ∈ jI P aJ 0 ops.toList:=by rw [<-y_];simpa using E4 (P:=P) (aJ:=aJ) (i:=0) (j:=qI) (l:=ops.toList) (by simp) acC
       obtain ⟨af,g3⟩:=QJ (s+1) sE EF;refine ⟨call,af,⟨fL,h0⟩,?_⟩;have aP:dM (es.take s) (dM es bM s) (s+1)=dM es bM s:=by have:(es.take s)[s+1]? =none:=apv (by simp;omega);simp only [dM,this]
       have bu:dM (es.take s) (dM es bM s) s=dM es bM s:=Iv (ao1 _);rw [aP] at g3;rw [bu];exact g3
     . obtain ⟨af,g3⟩:=QJ s al hm;exact ⟨call,af,⟨fL,h0⟩,g3⟩,
    fun _=>⟨rfl,fun dL ok mk aD o_ IY j cY ac6=>by obtain ⟨ei,cZ,z2,_⟩:=zq dL ok aD (by omega);rw [IY] at cZ;cases cZ;exact z2 j cY ac6⟩,
    fun ae ag=>by omega⟩
 refine aaB fE cP fL h0 k s C (fun h=>by omega) (fun _ _ _ _ _ _ _ _ h=>by omega) (fun _ fuel listed aw bF w' g1 g2 g3 g4 g5 g6 g7=>?_);rw [akw] at g6;rw [acf] at g7;rw [aca] at a2 Ib Ia;refine al0 cP fL h0 (fun i o bJ=>by obtain ⟨ei,_,z2,_⟩:=ih i o bJ;exact z2) BS EB EC (fun e=>by rw [e] at zb;omega) (fun e=>by rw [e] at zb;omega) (fun e=>by rw [e] at y_;omega) OQ OR
  Ie Cp zn a2 df Ib Ia g6 g7 (fun bY a2 aQ ck c0 e2=>aG bY a2 aQ (g5.trans ck) (by rw [oi];exact c0) e2) g2 g3 (fun ei oe=>by rw [Qn] at oe;cases oe;exact aa) ⟨E',Qn⟩ (fun m hm=>(g4 m hm).trans (adm m hm)) fuel ?_
 have Hy:∀(L:Array Bool) (x:Nat),L.size=ops.size->x<ops.size->¬L.getD x false=true->(List.range ops.size).countP (fun k=>!(L.setIfInBounds x true).getD k false) < (List.range ops.size).countP (fun k=>!L.getD k false):=by
  intro L x gN au aF;have zx:x<L.size:=by rw [gN];exact au
  refine Hz (fun k=>!L.getD k false) (fun k=>!(L.setIfInBounds x true).getD k false) (List.range ops.size) (fun k _ aD=>?_) ⟨x,aqB.2 au,?_,?_⟩
  . simp only [aqa] at aD ⊢;cases aI:L.getD k false with
    | false=>rfl
    | true=>
      have:=(iC (k:=k) zx).2 (.inr aI);rw [aD] at this;cases this
  . cases aI:L.getD x false with
    | false=>rfl
    | true=>exact absurd aI aF
  . have:=(iC (k:=x) zx).2 (.inl rfl);simp [this]
 have ahw:¬listed.getD ni false=true:=fun h=>by have:=(g4 ni vj).1 h;omega
 have ahv:¬listed.getD qI false=true:=fun h=>by have:=(g4 qI y').1 h;omega
 have jf:¬listed.getD sK false=true:=fun h=>by have:=(g4 sK BF).1 h;omega
 have ch:=Hy listed ni g2 vj ahw
 have c8:=Hy (listed.setIfInBounds ni true) qI (by simp [g2]) y' (fun h=>by
  rcases (iC (by rw [g2];exact vj)).1 h with e | h
  . rw [e] at y_;omega
  . exact ahv h)
 have c3:=Hy ((listed.setIfInBounds ni true).setIfInBounds qI true) sK (by simp [g2]) BF (fun h=>by
  rcases (iC (by simp [g2];exact y')).1 h with e | h
  . rw [e] at BG;omega
  . rcases (iC (by rw [g2];exact vj)).1 h with e | h
    . rw [e] at BG;omega
    . exact jf h)
 omega
end
section
variable {P:Program} {aK:Nat} {ops:Array Oper} {call:gA}
inductive Gk {α β:Type} (R:α->β->Prop):List α->List β->Prop
 | nil:Gk R [] []
 | cons {a:α} {b:β} {Ry:List α} {Rz:List β} (h:R a b) (t:Gk R Ry Rz):Gk R (a::Ry) (b::Rz)
end
end
end Go.Proofs.YtahfljfikfkpnaaGreatDoor.bg
