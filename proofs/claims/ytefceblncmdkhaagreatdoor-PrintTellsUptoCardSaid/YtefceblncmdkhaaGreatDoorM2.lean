/- The abstract machine and its walks (a verified interpreter of the model's code: plain definitions and lemmas, no condition). Printed by a program from longer texts: names made short. -/
import Derived.Test.YtefceblncmdkhaaGreatDoorM1
import Derived.LaidEqlPtr
import Derived.RangeFuncLeaves
import Derived.RecoverIn
import Derived.OrdersIn
set_option linter.unusedSectionVars false
set_option linter.unusedSimpArgs false
set_option linter.unusedVariables false
set_option maxHeartbeats 64000000
noncomputable section
namespace Go.Proofs.YtefceblncmdkhaaGreatDoor.bb
section
open Go Go.RowKit
variable [Lay]
theorem aU.nk:∀{p q:aU},aU.g_ p q=true->p=q
 | .z,.z,_=>rfl
 | .l p,.l q,h=>by rw [aU.nk (p:=p) (q:=q) h]
 | .r p,.r q,h=>by rw [aU.nk (p:=p) (q:=q) h]
 | .z,.l _,h=>by cases h
 | .z,.r _,h=>by cases h
 | .l _,.z,h=>by cases h
 | .l _,.r _,h=>by cases h
 | .r _,.z,h=>by cases h
 | .r _,.l _,h=>by cases h
theorem aU.AX:∀p:aU,aU.g_ p p=true
 | .z=>rfl
 | .l p=>aU.AX p
 | .r p=>aU.AX p
section
variable {P:Program}
theorem Tx {aB:Fr} {E:Env} {h:ah} {w:World} (s:bd aB E h w) {b:aU} {p:jb} (ak:E b=some p) (aj:(h.get b).Fz=true):(h.get b).own=true/\∃c t,w.heap[p.bh]? =some (.cells c t (0,0)):=by
 have ay:=s.at ak;cases an:h.get b<;>rw [an] at aj<;>try (cases aj;done)
 rename_i n cs cH st;rw [an] at ay;obtain ⟨_,p',c,el,b5,al,_,wa,_,c8,_⟩:=ay;rw [ak] at al;cases al;have:st=false:=by simpa [cn.Fz] using aj
 rw [c8 this] at wa;exact ⟨rfl,c,el,wa⟩
theorem TL {t:TypeId} (h:j2 P t=true):∃e j,P.underlying t=some (.pointer e)/\P.info? e=some j/\j.size≠0:=by
 unfold j2 at h;cases aE:bg P t with
 | none=>rw [aE] at h;cases h
 | some aO=>
   rw [aE] at h;simp only at h;cases hu:aO.bl<;>rw [hu] at h<;>simp only at h<;>try (cases h;done)
   rename_i e;cases he:bg P e with
   | none=>rw [he] at h;cases h
   | some bj=>
     rw [he] at h;simp only at h;obtain ⟨_,_,ad,_⟩:=uY aE;obtain ⟨j,g1,_,g3,_⟩:=uY he;refine ⟨e,j,by rw [ad,hu],g1,fun dI=>?_⟩;rw [g3,dI] at h;cases h
theorem ai8 {t:TypeId} (h:j2 P t=true) (w:World):∃e,(underlying t).run P w=.ok (.pointer e) w:=by obtain ⟨e,_,J,_⟩:=TL h;exact ⟨e,K5 J w⟩
theorem aj4 {t e:TypeId} {w:World} (hu:(underlying t).run P w=.ok (.pointer e) w) (b:Bool) (v:Value):(Instr.checkKey b 10000 t v).run P w=.ok () w:=by show (Instr.checkKey b (9999+1) t v).run P w=.ok () w;unfold Instr.checkKey;rw [Sem.run_bind,hu];rfl
theorem TJ {aB:Fr} {E:Env} {h:ah} {w:World} (s:bd aB E h w) {t:TypeId} (aE:j2 P t=true) {x y:V} {X Y:Value} {b:Bool} (he:ml h x y=some b) (ar:Rel E x X) (bc:Rel E y Y):
 (∃a c,X=.pointer (some a)/\Y=.pointer (some c))/\∀d,(Op.equalIn (d+1) t X Y).run P w=.ok b w:=by
 obtain ⟨e,j,ak,cI,cx⟩:=TL aE;unfold ml at he
 split at he
 case h_2=>cases he
 rename_i b9 dc
 split at he
 case h_2=>cases he
 rename_i cA c0;simp only [Rel] at ar bc;obtain ⟨p,lo,rfl⟩:=ar;obtain ⟨q,iQ,rfl⟩:=bc;refine ⟨⟨_,_,rfl,rfl⟩,fun d=>?_⟩;cases heq:aU.g_ b9 cA with
 | true=>
   rw [heq] at he;simp only [anC,ant] at he;have:=aU.nk heq;subst this;rw [lo] at iQ;cases iQ;have aj:b=decide (dc=c0):=by
    rw [<-he];by_cases h:dc=c0
    . subst h;simp
    . rw [aoe h,<-aof,an6];exact h
   have key:(sameAddr ⟨p.bh,p.base+dc,none⟩ ⟨p.bh,p.base+c0,none⟩).run P w=.ok b w:=by
    rw [aj];by_cases h:dc=c0
    . subst h;simpa using run_sameAddr_same w (⟨p.bh,p.base+dc,none⟩:Addr)
    . have eC:((⟨p.bh,p.base+dc,none⟩:Addr) == ⟨p.bh,p.base+c0,none⟩)=false:=by
       rw [aoQ];intro e;injection e with _ aN _
       omega
      simp [sameAddr,eC,h]
   simp [Op.equalIn,run_underlying ak,sizeOf,typeInfo,cI,cx,key]
 | false=>
   rw [heq] at he;simp only [anN] at he;obtain ⟨ao,he⟩:=fg he;simp only [anu] at ao;cases he;obtain ⟨Kx,bW,t1,v_⟩:=Tx s lo ao.1;obtain ⟨Ky,cu,t2,yx⟩:=Tx s iQ ao.2;have eC:(⟨p.bh,p.base+dc,none⟩:Addr)≠⟨q.bh,q.base+c0,none⟩:=by
    intro e;injection e with al _ _
    have:=s.inj b9 cA p q Kx Ky lo iQ al;subst this;rw [aU.AX] at heq;cases heq
   simp [Op.equalIn,run_underlying ak,sizeOf,typeInfo,cI,cx,run_sameAddr_other w eC v_ yx]
theorem TI {aB:Fr} {E:Env} {h:ah} {w:World} (s:bd aB E h w) {op:BinOp} {t:TypeId} {neg:Bool} (mJ:w7 P op t=some neg) {x y:V} {j1 ir:Operand} {X Y:Value} {b:Bool} (he:ml h x y=some b) (ar:Rel E x X) (bc:Rel E y Y):
 ∃Z,(do eqGuard op t j1 ir X Y;binOp op t X Y:Sem Value).run P w=.ok Z w/\Rel E (.bool (bif neg then !b else b)) Z:=by
 unfold w7 at mJ;have main:j2 P t=true->((op=.eql/\neg=false)\/(op=.neq/\neg=true))->∃Z,(do eqGuard op t j1 ir X Y;binOp op t X Y:Sem Value).run P w=.ok Z w/\Rel E (.bool (bif neg then !b else b)) Z:=by
  intro aE nv;obtain ⟨⟨a,c,rfl,rfl⟩,dh⟩:=TJ s aE he ar bc;have an:=fun (o:BinOp)=>DX (P:=P) (op:=o) (t:=t) (x:=j1) (y:=ir) (X:=.pointer (some a)) (Y:=.pointer (some c)) (by simp) (.inl (by simp)) w;have al:(Op.equal t (.pointer (some a)) (.pointer (some c))).run P w=.ok b w:=dh 9999;rcases nv with ⟨rfl,rfl⟩ | ⟨rfl,rfl⟩
  . refine ⟨.bool b,?_,by simp [Rel]⟩;rw [Sem.run_bind,an,Result.andThen_ok,binOp_eql (X:=.pointer (some a)) True.intro,Sem.run_bind,al];rfl
  . refine ⟨.bool (!b),?_,by simp [Rel]⟩;rw [Sem.run_bind,an,Result.andThen_ok,binOp_neq (X:=.pointer (some a)) True.intro,Sem.run_bind,al];rfl
 cases op<;>simp only at mJ<;>try (cases mJ;done)
 . obtain ⟨J,ad⟩:=fg mJ;cases ad;exact main J (.inl ⟨rfl,rfl⟩)
 . obtain ⟨J,ad⟩:=fg mJ;cases ad;exact main J (.inr ⟨rfl,rfl⟩)
end
section
variable {P:Program}
def xK (P:Program) (w:World) (E:Env) (dC:TypeId) (e:ef):Prop:=
 ∀k bu K mB b,e.run k bu=some b->Rel E k K->Rel E bu mB->(Op.equal dC K mB).run P w=.ok b w/\(b=true->mB=K/\Instr.sameBits 10000 K K=true)
theorem ai7 {aB:Fr} {E:Env} {h:ah} {w:World} (s:bd aB E h w) {dC:TypeId} (aE:j2 P dC=true):xK P w E dC ⟨ml h⟩:=by
 intro k bu K mB b he ar bc;obtain ⟨⟨a,c,rfl,rfl⟩,dh⟩:=TJ s aE he ar bc;refine ⟨dh 9999,fun aj=>?_⟩;subst aj;simp only [ml] at he
 split at he
 case h_2=>cases he
 split at he
 case h_2=>cases he
 rename_i b9 dc _ cA c0;simp only [Rel] at ar bc;obtain ⟨p,lo,ar⟩:=ar;obtain ⟨q,iQ,bc⟩:=bc;cases heq:aU.g_ b9 cA with
 | false=>
   rw [heq] at he;simp only [anN] at he;obtain ⟨_,he⟩:=fg he;cases he
 | true=>
   rw [heq] at he;simp only [anC,ant] at he;have:=aU.nk heq;subst this;rw [lo] at iQ;cases iQ;have:=aom he;subst this;rw [ar,bc];exact ⟨rfl,by simp [Instr.sameBits]⟩
theorem PQ {w:World} {E:Env} {dC:TypeId} {e:ef} (kb:xK P w E dC e) {k:V} {K:Value} (ay:Rel E k K):∀(es:List cM) (l:List MapEntry) (r:Option V) (i:Nat),kQ e k es=some r->e_ E es l->
 ∃R,(Instr.findAsking dC K l i).run P w=.ok R w/\(match r with
  | none=>R=none
  | some v=>∃j Y,R=some (j,Y)/\Rel E v Y)
 | [],l,r,i,h,aK=>by simp only [e_] at aK;subst aK;simp only [kQ,ant] at h;subst h;exact ⟨none,rfl,rfl⟩
 | m::ms,l,r,i,h,aK=>by
   obtain ⟨eV,es,rfl,J,ad,aC,bn⟩:=aK;simp only [kQ] at h;cases aL:e.run k m.k with
   | none=>rw [aL] at h;cases h
   | some b=>
     rw [aL] at h;simp only at h;obtain ⟨ag,av⟩:=kb _ _ _ _ _ aL ay J;cases b with
     | true=>
       simp only [anC,ant] at h;subst h;exact ⟨some (i,eV.val),by simp [Instr.findAsking,ag],i,eV.val,rfl,ad⟩
     | false=>
       simp only [anN] at h;obtain ⟨R,g1,g2⟩:=PQ kb ay ms es r (i+1) h bn;exact ⟨R,by simp [Instr.findAsking,ag,g1],g2⟩
theorem TM {w:World} {E:Env} {dC:TypeId} {e:ef} (kb:xK P w E dC e) {k v:V} {K X:Value} (ay:Rel E k K) (bB:Rel E v X) (clock:Nat):∀(es:List cM) (l:List MapEntry) (r:List cM × Bool) (i:Nat),oB e k v clock es=some r->e_ E es l->
 (r.2=true->(Instr.findAsking dC K l i).run P w=.ok none w/\e_ E r.1 (l++[⟨K,X,clock⟩]))/\
 (r.2=false->∃j eV Y,(Instr.findAsking dC K l i).run P w=.ok (some (i+j,Y)) w/\l[j]? =some eV/\Instr.sameBits 10000 eV.key K=true/\e_ E r.1 (l.modify j fun eV=>{eV with key:=K,val:=X}))
 | [],l,r,i,h,aK=>by simp only [e_] at aK;subst aK;simp only [oB,ant] at h;subst h;exact ⟨fun _=>⟨rfl,_,_,rfl,ay,bB,rfl,rfl⟩,fun h=>by cases h⟩
 | m::ms,l,r,i,h,aK=>by
   obtain ⟨eV,es,rfl,J,ad,aC,bn⟩:=aK;simp only [oB] at h;cases aL:e.run k m.k with
   | none=>rw [aL] at h;cases h
   | some b=>
     rw [aL] at h;simp only at h;obtain ⟨ag,av⟩:=kb _ _ _ _ _ aL ay J;cases b with
     | true=>
       simp only [anC,ant] at h;subst h;obtain ⟨aJ,bU⟩:=av rfl;refine ⟨fun h=>(by cases h),fun _=>⟨0,eV,eV.val,by simp [Instr.findAsking,ag],rfl,by rw [aJ];exact bU,?_⟩⟩;exact ⟨_,es,rfl,ay,bB,aC,bn⟩
     | false=>
       simp only [anN] at h;cases ak:oB e k v clock ms with
       | none=>rw [ak] at h;cases h
       | some bH=>
         rw [ak] at h;simp only [ant] at h;subst h;obtain ⟨g1,g2⟩:=TM kb ay bB clock ms es bH (i+1) ak bn;refine ⟨fun h=>?_,fun h=>?_⟩
         . obtain ⟨bP,a2⟩:=g1 h;exact ⟨by simp [Instr.findAsking,ag,bP],⟨eV,es++[⟨K,X,clock⟩],rfl,J,ad,aC,a2⟩⟩
         . obtain ⟨j,dL,Y,bP,a2,a3,a4⟩:=g2 h;exact ⟨j+1,dL,Y,by simp [Instr.findAsking,ag,bP];omega,by simpa using a2,a3,⟨eV,_,rfl,J,ad,aC,a4⟩⟩
theorem aj6 {dC:TypeId} {k':TypeId} {w:World} (hu:(underlying dC).run P w=.ok (.pointer k') w) {K:Value} {l:List MapEntry} {R:Option (Nat × Value)} (h:(Instr.findAsking dC K l 0).run P w=.ok R w):
 (Instr.findKey dC K l).run P w=.ok R w:=by
 cases l with
 | nil=>
   simp only [Instr.findAsking,Sem.run_pure] at h;cases h;simp [Instr.findKey,hu,Instr.findNow]
 | cons eV es=>
   have aX:Instr.findNow (.pointer k') K (eV::es) 0=none:=by simp [Instr.findNow,Instr.sameNow]
   simp [Instr.findKey,hu,aX,h]
theorem aan {x y:V} (h:vF x y=true):x=y:=by
 cases x<;>simp only [vF] at h<;>try (cases h;done)
 all_goals (cases y<;>simp only at h<;>try (cases h;done))
 . rw [ao5] at h;rw [h]
 . simp only [anu,nk,ao5] at h;rw [sn h.1,h.2]
 . rw [vs,ao5] at h;rw [h]
theorem PF:∀{xs cT:List V},vG xs cT=true->xs=cT
 | [],[],_=>rfl
 | [],_::_,h=>by cases h
 | _::_,[],h=>by cases h
 | x::xs,y::cT,h=>by
   simp only [vG] at h;cases J:vF x y with
   | false=>rw [J] at h;cases h
   | true=>rw [J] at h;rw [aan J,PF h]
theorem aam {E:Env} {x:V} {X Y:Value} (h:vF x x=true) (dO:Rel E x X) (ga:Rel E x Y):X=Y/\∀n,Instr.sameBits n X X=true:=by
 cases x<;>simp only [vF] at h<;>try (cases h;done)
 . simp only [Rel] at dO ga;subst dO ga;exact ⟨rfl,fun n=>by cases n<;>simp [Instr.sameBits]⟩
 . simp only [Rel] at dO ga;subst dO ga;exact ⟨rfl,fun n=>by cases n<;>simp [Instr.sameBits]⟩
 . simp only [Rel] at dO ga;subst dO ga;exact ⟨rfl,fun n=>by cases n<;>simp [Instr.sameBits,bytes_beq]⟩
theorem PE {E:Env}:∀{xs:List V} {l gm:List Value},vG xs xs=true->bm E xs l->bm E xs gm->l=gm/\∀n,((l.zip l).all fun (x,y)=>Instr.sameBits n x y)=true
 | [],l,gm,_,J,ad=>by simp only [bm] at J ad;subst J ad;exact ⟨rfl,fun _=>rfl⟩
 | x::xs,l,gm,h,J,ad=>by
   obtain ⟨y,cT,rfl,bP,a2⟩:=J;obtain ⟨qW,anr,rfl,b9,cA⟩:=ad;simp only [vG] at h;cases ao:vF x x with
   | false=>rw [ao] at h;cases h
   | true=>
     rw [ao] at h;obtain ⟨rfl,ag⟩:=aam ao bP b9;obtain ⟨rfl,av⟩:=PE h a2 cA;exact ⟨rfl,fun n=>by simp only [List.zip_cons_cons,aoy,ag,av,Bool.and_self]⟩
theorem akE {w:World} {E:Env} {dC:TypeId}:xK P w E dC (structEq P dC):=by
 intro k bu K mB b he ar bc;simp only [structEq] at he
 split at he
 case h_2=>cases he
 split at he
 case h_2=>cases he
 rename_i xs _ cT;cases aq:(ib P 12 dC).run (.agg xs) (.agg cT) with
 | none=>rw [aq] at he;cases he
 | some c=>
   rw [aq] at he;have aL:=HP 12 Op.maxDepth dC _ _ K mB c (by decide) aq ar bc w;cases c with
   | false=>
     simp only [anN,ant] at he;subst he;exact ⟨aL,fun h=>by cases h⟩
   | true=>
     simp only [anC] at he;cases ak:vG xs cT with
     | false=>rw [ak] at he;cases he
     | true=>
       rw [ak] at he;simp only [anC,ant] at he;subst he;refine ⟨aL,fun _=>?_⟩;have:=PF ak;subst this;simp only [Rel] at ar bc;obtain ⟨a,rfl,J⟩:=ar;obtain ⟨bw,rfl,ad⟩:=bc;obtain ⟨e,q⟩:=PE ak J ad;have dL:a=bw:=Array.toList_inj.1 e;subst dL;exact ⟨rfl,by show Instr.sameBits (9999+1) _ _=true;simp only [Instr.sameBits,beq_self_eq_true,aoC];exact q _⟩
theorem run_checkKey_plain {bl:TypeDesc} (aA:lu bl=true) {t:TypeId} {w:World} (hu:(underlying t).run P w=.ok bl w) (b:Bool) (n:Nat) (v:Value):(Instr.checkKey b (n+1) t v).run P w=.ok () w:=by
 unfold Instr.checkKey;rw [Sem.run_bind,hu];cases bl<;>simp only [lu] at aA<;>first
  | (cases aA;done)
  | rfl
theorem aaW {w:World} {E:Env} {cs:List V} {a:Array Value} (bF:bm E cs a.toList) (b:Bool) (n:Nat):∀(cf:List Field),D5 P cs cf=true->
 (do for f in cf do
      if f.name≠ "_" then Instr.checkKey b (n+1) f.type (<-part f.type a f.offset):Sem Unit).run P w=.ok () w:=by
 intro cf
 induction cf with
 | nil=>intro _;simp
 | cons f cf bC=>
   intro h;simp only [D5] at h;cases J:(qL P f.type f.offset).run cs with
   | none=>rw [J] at h;cases h
   | some x=>
     rw [J] at h;simp only at h;cases ad:bg P f.type with
     | none=>rw [ad] at h;cases h
     | some la=>
       rw [ad] at h;simp only at h;cases aC:lu la.bl with
       | false=>rw [aC] at h;cases h
       | true=>
         rw [aC] at h;simp only [anC] at h;obtain ⟨X,dO,_⟩:=Cw bF J w;have ay:=run_checkKey_plain (P:=P) aC (gf ad w) b n X;have:=bC h;by_cases aX:f.name= "_"
         . simpa [aX] using this
         . simpa [aX,dO,ay] using this
theorem akF {t:TypeId} (h:mW P t=true) (w:World):∃cf,(underlying t).run P w=.ok (.struct cf) w:=by
 unfold mW at h;cases aE:bg P t with
 | none=>rw [aE] at h;cases h
 | some aO=>
   rw [aE] at h;simp only at h;have hu:=gf aE w;cases b3:aO.bl<;>rw [b3] at h<;>simp only at h<;>try (cases h;done)
   rw [b3] at hu;exact ⟨_,hu⟩
theorem aj5 {t:TypeId} {k:V} (an:rK P t k=true) {E:Env} {K:Value} (ay:Rel E k K) {w:World} (b:Bool):(Instr.checkKey b 10000 t K).run P w=.ok () w:=by
 unfold rK at an;cases aE:bg P t with
 | none=>rw [aE] at an;cases an
 | some aO=>
   rw [aE] at an;simp only at an;have hu:=gf aE w;cases b3:aO.bl<;>rw [b3] at an<;>simp only at an<;>try (cases an;done)
   rename_i cf;rw [b3] at hu;cases k<;>simp only at an<;>try (cases an;done)
   rename_i cs;simp only [Rel] at ay;obtain ⟨a,rfl,bF⟩:=ay;show (Instr.checkKey b (9998+1+1) t (.agg a)).run P w=.ok () w;unfold Instr.checkKey;rw [Sem.run_bind,hu];have:=aaW (P:=P) (w:=w) bF b 9998 cf.toList an;simp only [Result.andThen_ok,Array.forIn_toList] at this ⊢;exact this
theorem aj7 {dC:TypeId} {cf:Array Field} {w:World} (hu:(underlying dC).run P w=.ok (.struct cf) w) {K:Value} {l:List MapEntry} {R:Option (Nat × Value)} (h:(Instr.findAsking dC K l 0).run P w=.ok R w):
 (Instr.findKey dC K l).run P w=.ok R w:=by
 cases l with
 | nil=>
   simp only [Instr.findAsking,Sem.run_pure] at h;cases h;simp [Instr.findKey,hu,Instr.findNow]
 | cons eV es=>
   have aX:Instr.findNow (.struct cf) K (eV::es) 0=none:=by simp [Instr.findNow,Instr.sameNow]
   simp [Instr.findKey,hu,aX,h]
structure zY (P:Program) (w:World) (E:Env) (dC:TypeId) (e:ef) (K:Value):Prop where
 eq:xK P w E dC e
 check:∀b,(Instr.checkKey b 10000 dC K).run P w=.ok () w
 find:∀{l:List MapEntry} {R},(Instr.findAsking dC K l 0).run P w=.ok R w->(Instr.findKey dC K l).run P w=.ok R w
theorem G' {aB:Fr} {E:Env} {h:ah} {w:World} (s:bd aB E h w) {dC:TypeId} (aE:j2 P dC=true) (K:Value):zY P w E dC ⟨ml h⟩ K:=by obtain ⟨Tt,n9⟩:=ai8 aE w;exact ⟨ai7 s aE,fun b=>aj4 n9 b K,fun q=>aj6 n9 q⟩
theorem G_ {w:World} {E:Env} {dC:TypeId} (aE:mW P dC=true) {k:V} (an:rK P dC k=true) {K:Value} (ay:Rel E k K):zY P w E dC (structEq P dC) K:=by obtain ⟨cf,n9⟩:=akF aE w;exact ⟨akE,fun b=>aj5 an ay b,fun q=>aj7 n9 q⟩
end
section
variable {P:Program}
theorem JP {E:Env} {bl:TypeDesc} {k bu:V} {K mB:Value} {b:Bool} (he:(l_ bl).run k bu=some b) (ar:Rel E k K) (bc:Rel E bu mB):
 Instr.sameNow bl K mB=some b/\(b=true->mB=K/\∀n,Instr.sameBits n K K=true):=by
 cases bl<;>simp only [l_] at he<;>try (simp [ef.none] at he;done)
 case bool=>
  simp only [ra] at he;cases k<;>simp only at he<;>try (cases he;done)
  cases bu<;>simp only at he<;>try (cases he;done)
  simp only [Rel] at ar bc;subst ar bc;simp only [ant] at he;subst he;refine ⟨rfl,fun h=>?_⟩;rw [ao5] at h;subst h;exact ⟨rfl,fun n=>by cases n<;>simp [Instr.sameBits]⟩
 case int cC=>
  simp only [nm] at he;obtain ⟨j,m,rfl,J⟩:=kE he;clear he;obtain ⟨EN,dD,rfl,ad⟩:=kE J;clear J;obtain ⟨ay,h⟩:=fg ad;clear ad;have:=sn ay;subst this;simp only [Rel] at ar bc;subst ar bc;simp only [ant,nk] at h;subst h;refine ⟨by simp [Instr.sameNow],fun h=>?_⟩;rw [ao5] at h;subst h;exact ⟨rfl,fun n=>by cases n<;>simp [Instr.sameBits]⟩
 case string=>
  simp only [vH] at he;cases k<;>simp only at he<;>try (cases he;done)
  cases bu<;>simp only at he<;>try (cases he;done)
  simp only [Rel] at ar bc;subst ar bc;simp only [ant,vs] at he;subst he;refine ⟨by simp only [Instr.sameNow,bytes_beq],fun h=>?_⟩;rw [ao5] at h;subst h;exact ⟨rfl,fun n=>by cases n<;>simp [Instr.sameBits,bytes_beq]⟩
theorem run_checkKey {bl:TypeDesc} (aA:lu bl=true) {t:TypeId} {w:World} (hu:(underlying t).run P w=.ok bl w) (b:Bool) (v:Value):(Instr.checkKey b 10000 t v).run P w=.ok () w:=by
 show (Instr.checkKey b (9999+1) t v).run P w=.ok () w;unfold Instr.checkKey;rw [Sem.run_bind,hu];cases bl<;>simp only [lu] at aA<;>first
  | (cases aA;done)
  | rfl
theorem run_findKey {bl:TypeDesc} {t:TypeId} {w:World} (hu:(underlying t).run P w=.ok bl w) {K:Value} {l:List MapEntry} {R:Option (Nat × Value)} (h:Instr.findNow bl K l 0=some R):
 (Instr.findKey t K l).run P w=.ok R w:=by
 simp only [Instr.findKey,Sem.run_bind,hu,Result.andThen_ok,h,Sem.run_pure]
theorem PX {E:Env} {bl:TypeDesc} {k:V} {K:Value} (ay:Rel E k K):∀(es:List cM) (l:List MapEntry) (r:Option V) (i:Nat),kQ (l_ bl) k es=some r->e_ E es l->
 ∃R,Instr.findNow bl K l i=some R/\(match r with
  | none=>R=none
  | some v=>∃j Y,R=some (j,Y)/\Rel E v Y)
 | [],l,r,i,h,aK=>by simp only [e_] at aK;subst aK;simp only [kQ,ant] at h;subst h;exact ⟨none,rfl,rfl⟩
 | m::ms,l,r,i,h,aK=>by
   obtain ⟨e,es,rfl,J,ad,aC,bn⟩:=aK;simp only [kQ] at h;cases aL:(l_ bl).run k m.k with
   | none=>rw [aL] at h;cases h
   | some b=>
     rw [aL] at h;simp only at h;obtain ⟨ag,av⟩:=JP aL ay J;cases b with
     | true=>
       simp only [anC,ant] at h;subst h;exact ⟨some (i,e.val),by simp only [Instr.findNow,ag],i,e.val,rfl,ad⟩
     | false=>
       simp only [anN] at h;obtain ⟨R,g1,g2⟩:=PX ay ms es r (i+1) h bn;exact ⟨R,by simp only [Instr.findNow,ag,g1],g2⟩
theorem TP {E:Env} {bl:TypeDesc} {k v:V} {K X:Value} (ay:Rel E k K) (bB:Rel E v X) (clock:Nat):∀(es:List cM) (l:List MapEntry) (r:List cM × Bool) (i:Nat),oB (l_ bl) k v clock es=some r->e_ E es l->
 (r.2=true->Instr.findNow bl K l i=some none/\e_ E r.1 (l++[⟨K,X,clock⟩]))/\
 (r.2=false->∃j e Y,Instr.findNow bl K l i=some (some (i+j,Y))/\l[j]? =some e/\Instr.sameBits 10000 e.key K=true/\e_ E r.1 (l.modify j fun e=>{e with key:=K,val:=X}))
 | [],l,r,i,h,aK=>by simp only [e_] at aK;subst aK;simp only [oB,ant] at h;subst h;exact ⟨fun _=>⟨rfl,_,_,rfl,ay,bB,rfl,rfl⟩,fun h=>by cases h⟩
 | m::ms,l,r,i,h,aK=>by
   obtain ⟨e,es,rfl,J,ad,aC,bn⟩:=aK;simp only [oB] at h;cases aL:(l_ bl).run k m.k with
   | none=>rw [aL] at h;cases h
   | some b=>
     rw [aL] at h;simp only at h;obtain ⟨ag,av⟩:=JP aL ay J;cases b with
     | true=>
       simp only [anC,ant] at h;subst h;obtain ⟨aJ,bU⟩:=av rfl;refine ⟨fun h=>(by cases h),fun _=>⟨0,e,e.val,by simp only [Instr.findNow,ag,ao7],rfl,by rw [aJ];exact bU _,?_⟩⟩;exact ⟨_,es,rfl,ay,bB,aC,bn⟩
     | false=>
       simp only [anN] at h;cases ak:oB (l_ bl) k v clock ms with
       | none=>rw [ak] at h;cases h
       | some bH=>
         rw [ak] at h;simp only [ant] at h;subst h;obtain ⟨g1,g2⟩:=TP ay bB clock ms es bH (i+1) ak bn;refine ⟨fun h=>?_,fun h=>?_⟩
         . obtain ⟨bP,a2⟩:=g1 h;exact ⟨by simp only [Instr.findNow,ag,bP],⟨e,es++[⟨K,X,clock⟩],rfl,J,ad,aC,a2⟩⟩
         . obtain ⟨j,dL,Y,bP,a2,a3,a4⟩:=g2 h;exact ⟨j+1,dL,Y,by simp only [Instr.findNow,ag,bP];congr 3;omega,by simpa using a2,a3,e,_,rfl,J,ad,aC,a4⟩
theorem J7 {aB:Fr} {E:Env} {h:ah} {w:World} (s:bd aB E h w) {x:V} {X:Value} {es:List cM} (he:rR h x=some es) (ar:Rel E x X):
 (X=.map none/\es=[])\/∃r a clock,X=.map (some r)/\(getObj r).run P w=.ok (.map a clock) w/\e_ E es a.toList:=by
 cases x<;>simp only [rR] at he<;>try (cases he;done)
 . simp only [Rel] at ar;exact .inl ⟨ar,by simpa using he.symm⟩
 . rename_i b;simp only [Rel] at ar;obtain ⟨p,ak,rfl⟩:=ar;have aj:=s.at ak;cases an:h.get b<;>rw [an] at he<;>simp only [cn.lD] at he<;>try (cases he;done)
   simp only [ant] at he;subst he;rw [an] at aj;obtain ⟨q,a,J,_,aC,bn⟩:=aj;rw [ak] at J;cases J;exact .inr ⟨p.bh,a,_,rfl,by simp only [getObj,Sem.run,aC];rfl,bn⟩
theorem PS {bl:TypeDesc} {K:Value}:∀{l:List MapEntry} {i:Nat},(∀e ∈ l,Instr.sameNow bl K e.key=some false)->Instr.findNow bl K l i=some none
 | [],_,_=>rfl
 | e::es,i,h=>by simp only [Instr.findNow,h e (by simp)];exact PS fun dL eW=>h dL (by simp [eW])
theorem PT {bl:TypeDesc} {K:Value}:∀{l:List MapEntry} {i:Nat},(∀e ∈ l,∃b,Instr.sameNow bl K e.key=some b)->(∃e ∈ l,Instr.sameNow bl K e.key=some true)->
 ∃j,∃e ∈ l,Instr.sameNow bl K e.key=some true/\Instr.findNow bl K l i=some (some (j,e.val))
 | [],_,_,h=>by obtain ⟨e,he,_⟩:=h;simp at he
 | e::es,i,J,ad=>by
   obtain ⟨b,aj⟩:=J e (by simp);cases b with
   | true=>exact ⟨i,e,by simp,aj,by simp only [Instr.findNow,aj]⟩
   | false=>
     obtain ⟨dL,eW,aE⟩:=ad;simp only [an2] at eW;rcases eW with rfl | eW
     . rw [aj] at aE;cases aE
     . obtain ⟨j,aN,ag,av,aJ⟩:=PT (i:=i+1) (fun x ar=>J x (by simp [ar])) ⟨dL,eW,aE⟩;exact ⟨j,aN,by simp [ag],av,by simp only [Instr.findNow,aj,aJ]⟩
theorem PU {E:Env} {bl:TypeDesc} {k:V} {K:Value} (ay:Rel E k K):∀(es:List cM) (l:List MapEntry) (r:Option V),kP (l_ bl) k es=some r->lU E es l->
 (∀e ∈ l,∃b,Instr.sameNow bl K e.key=some b)/\(match r with
  | none=>∀e ∈ l,Instr.sameNow bl K e.key=some false
  | some v=>(∃e ∈ l,Instr.sameNow bl K e.key=some true)/\∀e ∈ l,Instr.sameNow bl K e.key=some true->Rel E v e.val)
 | [],l,r,h,aK=>by simp only [lU] at aK;subst aK;simp only [kP,ant] at h;subst h;exact ⟨fun e he=>by simp at he,fun e he=>by simp at he⟩
 | m::ms,l,r,h,aK=>by
   obtain ⟨e,es,rfl,J,ad,bn⟩:=aK;simp only [kP] at h;cases aA:kP (l_ bl) k ms with
   | none=>rw [aA] at h;cases h
   | some bH=>
     rw [aA] at h;simp only at h;obtain ⟨g1,g2⟩:=PU ay ms es bH aA bn;cases aL:(l_ bl).run k m.k with
     | none=>rw [aL] at h;cases h
     | some b=>
       rw [aL] at h;simp only at h;obtain ⟨ag,_⟩:=JP aL ay J;have Iz:∀dL ∈ e::es,∃b,Instr.sameNow bl K dL.key=some b:=by
        intro dL eW;rcases an2.1 eW with rfl | eW
        . exact ⟨b,ag⟩
        . exact g1 dL eW
       refine ⟨Iz,?_⟩;cases b with
       | true=>
         simp only [anC] at h;cases bH with
         | some _=>cases h
         | none=>
           simp only [ant] at h;subst h;refine ⟨⟨e,by simp,ag⟩,fun dL eW aE=>?_⟩;rcases an2.1 eW with rfl | eW
           . exact ad
           . have:=g2 dL eW;rw [aE] at this;cases this
       | false=>
         simp only [anN,ant] at h;subst h;cases bH with
         | none=>
           intro dL eW;rcases an2.1 eW with rfl | eW
           . exact ag
           . exact g2 dL eW
         | some v=>
           obtain ⟨⟨dI,fc,fA⟩,y3⟩:=g2;refine ⟨⟨dI,by simp [fc],fA⟩,fun dL eW aE=>?_⟩;rcases an2.1 eW with rfl | eW
           . rw [ag] at aE;cases aE
           . exact y3 dL eW aE
theorem aaN {E:Env} {bl:TypeDesc} {k:V} {K:Value} (ay:Rel E k K) {es:List cM} {l a:List MapEntry} {r:Option V} (h:kP (l_ bl) k es=some r) (aK:lU E es l) (ak:l.Perm a):
 ∃R,Instr.findNow bl K a 0=some R/\(match r with
  | none=>R=none
  | some v=>∃j Y,R=some (j,Y)/\Rel E v Y):=by
 obtain ⟨J,ad⟩:=PU ay es l r h aK;have hm:∀e,e ∈ a↔e ∈ l:=fun e=>ak.mem_iff.symm;cases r with
 | none=>exact ⟨none,PS fun e he=>ad e ((hm e).1 he),rfl⟩
 | some v=>
   obtain ⟨⟨dI,fc,fA⟩,y3⟩:=ad;obtain ⟨j,e,ag,av,aJ⟩:=PT (i:=0) (fun e he=>J e ((hm e).1 he)) ⟨dI,(hm dI).2 fc,fA⟩;exact ⟨_,aJ,j,e.val,rfl,y3 e ((hm e).1 ag) av⟩
theorem aho {e:ef} {z:V} {ok:Bool} {h:ah} {x k v:V} (he:kD e z ok h x k=some v):
 nF e z ok h x k=some v\/∃b es r,x=.map b/\h.get b=.iF es/\kP e k es=some r/\v=(match r with
  | some u=>bif ok then .tuple [u,.bool true] else u
  | none=>bif ok then .tuple [z,.bool false] else z):=by
 unfold kD at he;cases x<;>simp only at he<;>try (exact .inl he)
 rename_i b;cases an:h.get b<;>rw [an] at he<;>simp only at he<;>try (exact .inl he)
 rename_i es;cases aA:kP e k es with
 | none=>rw [aA] at he;cases he
 | some r=>
   rw [aA] at he;refine .inr ⟨b,es,r,rfl,an,aA,?_⟩;cases r<;>simp only [ant] at he<;>exact he.symm
theorem ahn {aB:Fr} {E:Env} {h:ah} {w:World} (s:bd aB E h w) {t:TypeId} {ok:Bool} {x k v:V} {X K:Value} (ar:Rel E x X) (ay:Rel E k K) (he:(E6 P t ok).run h x k=some v):
 ∃Z,(Instr.lookup t X K ok).run P w=.ok Z w/\Rel E v Z:=by
 unfold E6 at he;cases aE:bg P t with
 | none=>rw [aE] at he;cases he
 | some aO=>
   rw [aE] at he;simp only at he;have hu:=gf aE w;cases b3:aO.bl<;>rw [b3] at he<;>simp only at he<;>try (cases he;done)
   rename_i dC k';rw [b3] at hu;cases qq:bg P dC with
   | none=>rw [qq] at he;cases he
   | some hf=>
     rw [qq] at he;simp only at he;cases het:bg P k' with
     | none=>rw [het] at he;cases he
     | some bj=>
       rw [het] at he;simp only at he;cases bJ:bj.zero with
       | none=>rw [bJ] at he;cases he
       | some z=>
         rw [bJ] at he;simp only at he;cases aA:lu hf.bl with
         | false=>
           rw [aA] at he;simp only [anN] at he;have tO:∃e,zY P w E dC e K/\nF e z ok h x k=some v:=by
            cases pw:j2 P dC with
            | true=>
              rw [pw] at he;exact ⟨_,G' s pw K,he⟩
            | false=>
              rw [pw] at he;simp only [anN] at he;cases c8:mW P dC with
              | false=>rw [c8] at he;cases he
              | true=>
                rw [c8] at he;simp only [anC] at he;obtain ⟨an,he⟩:=fg he;exact ⟨_,G_ c8 an ay,he⟩
           clear he;obtain ⟨e,ask,he⟩:=tO;obtain ⟨u4,og,nz,_⟩:=zA (P:=P) het bJ E w;simp only [nF] at he;cases hm:rR h x with
           | none=>rw [hm] at he;cases he
           | some es=>
             rw [hm] at he;simp only at he;cases rm:kQ e k es with
             | none=>rw [rm] at he;cases he
             | some r=>
               rw [rm] at he;simp only at he;have main:∀(l:List MapEntry),e_ E es l->∃R,(Instr.findKey dC K l).run P w=.ok R w/\
                ((R=none/\Rel E v (if ok=true then .tuple #[u4,.bool false] else u4))\/∃j Y,R=some (j,Y)/\Rel E v (if ok=true then .tuple #[Y,.bool true] else Y)):=by
                intro l aw;obtain ⟨R,g1,g2⟩:=PQ ask.eq ay es l r 0 rm aw;refine ⟨R,ask.find g1,?_⟩;cases r with
                | none=>
                  simp only at g2 he;refine .inl ⟨g2,?_⟩;simp only [ant] at he;subst he;cases ok
                  . exact nz
                  . simp only [anC,an7,Rel,bm];exact ⟨_,rfl,_,_,rfl,nz,_,_,rfl,rfl,rfl⟩
                | some u=>
                  simp only at g2 he;obtain ⟨j,Y,cV,ga⟩:=g2;refine .inr ⟨j,Y,cV,?_⟩;simp only [ant] at he;subst he;cases ok
                  . exact ga
                  . simp only [anC,an7,Rel,bm];exact ⟨_,rfl,_,_,rfl,ga,_,_,rfl,rfl,rfl⟩
               rcases J7 (P:=P) s hm ar with ⟨rfl,rfl⟩ | ⟨ba,a,clock,rfl,fr,Br⟩
               . obtain ⟨R,g1,g2⟩:=main [] rfl;have kS:=ask.check true;rcases g2 with ⟨rfl,g3⟩ | ⟨j,Y,rfl,g3⟩
                 all_goals
                  refine ⟨_,?_,g3⟩;simp only [Instr.lookup,Sem.run_bind,hu,Result.andThen_ok,Sem.run_pure];have al:(#[]:Array MapEntry).isEmpty=true:=rfl;rw [al,kS,Result.andThen_ok,g1,Result.andThen_ok];simp only [Sem.run_bind,og,Result.andThen_ok,Sem.run_pure]
               . obtain ⟨R,g1,g2⟩:=main a.toList Br;have kS:=ask.check a.isEmpty;rcases g2 with ⟨rfl,g3⟩ | ⟨j,Y,rfl,g3⟩
                 all_goals
                  refine ⟨_,?_,g3⟩;simp only [Instr.lookup,Sem.run_bind,hu,Result.andThen_ok,Sem.run_pure,fr];rw [kS,Result.andThen_ok,g1,Result.andThen_ok];simp only [Sem.run_bind,og,Result.andThen_ok,Sem.run_pure]
         | true=>
           rw [aA] at he;simp only [anC] at he;obtain ⟨u4,og,nz,_⟩:=zA (P:=P) het bJ E w;have n9:=gf qq w;rcases aho he with he | ⟨b,es,r,rfl,an,acr,rfl⟩
           case inr=>
            simp only [Rel] at ar;obtain ⟨p,ak,rfl⟩:=ar;have aj:=s.at ak;rw [an] at aj;obtain ⟨p',a,c,l,hQ,_,bp,adu,adv⟩:=aj;rw [ak] at hQ;cases hQ;obtain ⟨R,g1,g2⟩:=aaN ay acr adu adv;have fr:(getObj p.bh).run P w=.ok (.map a c) w:=by simp only [getObj,Sem.run,bp]
            have kS:=run_checkKey (P:=P) aA n9 a.isEmpty K;have D_:=run_findKey n9 g1;cases r with
            | none=>
              simp only at g2;subst g2;refine ⟨if ok=true then .tuple #[u4,.bool false] else u4,?_,?_⟩
              . simp only [Instr.lookup,Sem.run_bind,hu,Result.andThen_ok,Sem.run_pure,fr];rw [kS,Result.andThen_ok,D_,Result.andThen_ok];simp only [Sem.run_bind,og,Result.andThen_ok,Sem.run_pure]
              . cases ok
                . exact nz
                . simp only [anC,an7,Rel,bm];exact ⟨_,rfl,_,_,rfl,nz,_,_,rfl,rfl,rfl⟩
            | some u=>
              simp only at g2;obtain ⟨j,Y,rfl,ga⟩:=g2;refine ⟨if ok=true then .tuple #[Y,.bool true] else Y,?_,?_⟩
              . simp only [Instr.lookup,Sem.run_bind,hu,Result.andThen_ok,Sem.run_pure,fr];rw [kS,Result.andThen_ok,D_,Result.andThen_ok];simp only [Sem.run_bind,Sem.run_pure,Result.andThen_ok]
              . cases ok
                . exact ga
                . simp only [anC,an7,Rel,bm];exact ⟨_,rfl,_,_,rfl,ga,_,_,rfl,rfl,rfl⟩
           simp only [nF] at he;cases hm:rR h x with
           | none=>rw [hm] at he;cases he
           | some es=>
             rw [hm] at he;simp only at he;cases rm:kQ (l_ hf.bl) k es with
             | none=>rw [rm] at he;cases he
             | some r=>
               rw [rm] at he;simp only at he;have main:∀(l:List MapEntry),e_ E es l->∃R,(Instr.findKey dC K l).run P w=.ok R w/\
                ((R=none/\Rel E v (if ok=true then .tuple #[u4,.bool false] else u4))\/∃j Y,R=some (j,Y)/\Rel E v (if ok=true then .tuple #[Y,.bool true] else Y)):=by
                intro l aw;obtain ⟨R,g1,g2⟩:=PX ay es l r 0 rm aw;refine ⟨R,run_findKey n9 g1,?_⟩;cases r with
                | none=>
                  simp only at g2 he;refine .inl ⟨g2,?_⟩;simp only [ant] at he;subst he;cases ok
                  . exact nz
                  . simp only [anC,an7,Rel,bm];exact ⟨_,rfl,_,_,rfl,nz,_,_,rfl,rfl,rfl⟩
                | some u=>
                  simp only at g2 he;obtain ⟨j,Y,cV,ga⟩:=g2;refine .inr ⟨j,Y,cV,?_⟩;simp only [ant] at he;subst he;cases ok
                  . exact ga
                  . simp only [anC,an7,Rel,bm];exact ⟨_,rfl,_,_,rfl,ga,_,_,rfl,rfl,rfl⟩
               rcases J7 (P:=P) s hm ar with ⟨rfl,rfl⟩ | ⟨ba,a,clock,rfl,fr,Br⟩
               . obtain ⟨R,g1,g2⟩:=main [] rfl;have kS:=run_checkKey (P:=P) aA n9 true K;rcases g2 with ⟨rfl,g3⟩ | ⟨j,Y,rfl,g3⟩
                 all_goals
                  refine ⟨_,?_,g3⟩;simp only [Instr.lookup,Sem.run_bind,hu,Result.andThen_ok,Sem.run_pure];have al:(#[]:Array MapEntry).isEmpty=true:=rfl;rw [al,kS,Result.andThen_ok,g1,Result.andThen_ok];simp only [Sem.run_bind,og,Result.andThen_ok,Sem.run_pure]
               . obtain ⟨R,g1,g2⟩:=main a.toList Br;have kS:=run_checkKey (P:=P) aA n9 a.isEmpty K;rcases g2 with ⟨rfl,g3⟩ | ⟨j,Y,rfl,g3⟩
                 all_goals
                  refine ⟨_,?_,g3⟩;simp only [Instr.lookup,Sem.run_bind,hu,Result.andThen_ok,Sem.run_pure,fr];rw [kS,Result.andThen_ok,g1,Result.andThen_ok];simp only [Sem.run_bind,og,Result.andThen_ok,Sem.run_pure]
theorem U_ {aB:Fr} {E:Env} {h ab:ah} {w:World} (s:bd aB E h w) {t:TypeId} {x k v:V} {X K Y:Value} (ar:Rel E x X) (ay:Rel E k K) (bB:Rel E v Y) (he:(pX P t).run h x k v=some ab):
 ∃w',(Instr.mapUpdate t X K Y).run P w=.ok () w'/\bd aB E ab w':=by
 unfold pX at he;cases aE:bg P t with
 | none=>rw [aE] at he;cases he
 | some aO=>
   rw [aE] at he;simp only at he;have hu:=gf aE w;cases b3:aO.bl<;>rw [b3] at he<;>simp only at he<;>try (cases he;done)
   rename_i dC k';rw [b3] at hu;cases qq:bg P dC with
   | none=>rw [qq] at he;cases he
   | some hf=>
     rw [qq] at he;simp only at he;cases aA:lu hf.bl with
     | false=>
       rw [aA] at he;simp only [anN] at he;have tO:∃e,zY P w E dC e K/\pY e h x k v=some ab:=by
        cases pw:j2 P dC with
        | true=>
          rw [pw] at he;exact ⟨_,G' s pw K,he⟩
        | false=>
          rw [pw] at he;simp only [anN] at he;cases c8:mW P dC with
          | false=>rw [c8] at he;cases he
          | true=>
            rw [c8] at he;simp only [anC] at he;obtain ⟨an,he⟩:=fg he;exact ⟨_,G_ c8 an ay,he⟩
       clear he;obtain ⟨e,ask,he⟩:=tO;cases x<;>simp only [pY] at he<;>try (cases he;done)
       rename_i b;simp only [Rel] at ar;obtain ⟨p,ak,rfl⟩:=ar;have aj:=s.at ak;cases an:h.get b<;>rw [an] at he<;>simp only [cn.lD] at he<;>try (cases he;done)
       rename_i es clock;rw [an] at aj;obtain ⟨q,a,J,dz,aC,bn⟩:=aj;rw [ak] at J;cases J;cases wq:oB e k v clock es with
       | none=>rw [wq] at he;cases he
       | some r=>
         rw [wq] at he;simp only [ant] at he;subst he;have fr:(getObj p.bh).run P w=.ok (.map a clock) w:=by simp only [getObj,Sem.run,aC]
         have kS:=ask.check false;have l7:=(anx.1 aC).1;have AV:∀(bw:Array MapEntry) (hY:Nat),e_ E r.1 bw.toList->hY=(bif r.2 then clock+1 else clock)->
          ∃w',(setObj p.bh (.map bw hY)).run P w=.ok () w'/\bd aB E (h.set b (.mp r.1 (bif r.2 then clock+1 else clock))) w':=by
          intro bw hY hm ao;refine ⟨{w with heap:=w.heap.setIfInBounds p.bh (.map bw hY)},by simp only [setObj,Sem.run,aC],s.set (p:=p) (by rw [an];rfl) ak dz (by simp) (fun j bI=>?_) rfl rfl rfl (fun _ _ _ e=>by cases e) ?_⟩
          . simp only [anT];rw [anE (fun e=>bI e.symm)]
          . exact ⟨p,bw,ak,dz,by simp [l7,ao],hm⟩
         obtain ⟨g1,g2⟩:=TM ask.eq ay bB clock es a.toList r 0 wq bn;cases mL:r.2 with
         | true=>
           obtain ⟨bP,a2⟩:=g1 mL;obtain ⟨w',d1,d2⟩:=AV (a.push ⟨K,Y,clock⟩) (clock+1) (by simpa using a2) (by rw [mL];rfl);rw [mL] at d2;refine ⟨w',?_,d2⟩;simp only [Instr.mapUpdate,Sem.run_bind,hu,Result.andThen_ok,fr,kS,ask.find bP,d1]
         | false=>
           obtain ⟨j,eV,V9,bP,a2,a3,a4⟩:=g2 mL;obtain ⟨w',d1,d2⟩:=AV (a.modify j fun eV=>{eV with key:=K,val:=Y}) clock (by simpa using a4) (by rw [mL];rfl);rw [mL] at d2;refine ⟨w',?_,d2⟩;rw [an8] at bP;have al:a[j]? =some eV:=by simpa using a2
           simp only [Instr.mapUpdate,Sem.run_bind,hu,Result.andThen_ok,fr,kS,ask.find bP,al,Option.map,Option.getD,Instr.keyThatStays,a3,an7,Sem.run_pure,d1]
     | true=>
       rw [aA] at he;simp only [anC] at he;have n9:=gf qq w;cases x<;>simp only [pY] at he<;>try (cases he;done)
       rename_i b;simp only [Rel] at ar;obtain ⟨p,ak,rfl⟩:=ar;have aj:=s.at ak;cases an:h.get b<;>rw [an] at he<;>simp only [cn.lD] at he<;>try (cases he;done)
       rename_i es clock;rw [an] at aj;obtain ⟨q,a,J,dz,aC,bn⟩:=aj;rw [ak] at J;cases J;cases wq:oB (l_ hf.bl) k v clock es with
       | none=>rw [wq] at he;cases he
       | some r=>
         rw [wq] at he;simp only [ant] at he;subst he;have fr:(getObj p.bh).run P w=.ok (.map a clock) w:=by simp only [getObj,Sem.run,aC]
         have kS:=run_checkKey (P:=P) aA n9 false K;have l7:=(anx.1 aC).1;have done:∀(bw:Array MapEntry) (hY:Nat),e_ E r.1 bw.toList->hY=(bif r.2 then clock+1 else clock)->
          ∃w',(setObj p.bh (.map bw hY)).run P w=.ok () w'/\bd aB E (h.set b (.mp r.1 (bif r.2 then clock+1 else clock))) w':=by
          intro bw hY hm ao;refine ⟨{w with heap:=w.heap.setIfInBounds p.bh (.map bw hY)},by simp only [setObj,Sem.run,aC],s.set (p:=p) (by rw [an];rfl) ak dz (by simp) (fun j bI=>?_) rfl rfl rfl (fun _ _ _ e=>by cases e) ?_⟩
          . simp only [anT];rw [anE (fun e=>bI e.symm)]
          . exact ⟨p,bw,ak,dz,by simp [l7,ao],hm⟩
         obtain ⟨g1,g2⟩:=TP ay bB clock es a.toList r 0 wq bn;cases mL:r.2 with
         | true=>
           obtain ⟨bP,a2⟩:=g1 mL;obtain ⟨w',d1,d2⟩:=done (a.push ⟨K,Y,clock⟩) (clock+1) (by simpa using a2) (by rw [mL];rfl);rw [mL] at d2;refine ⟨w',?_,d2⟩;simp only [Instr.mapUpdate,Sem.run_bind,hu,Result.andThen_ok,fr,kS,run_findKey n9 bP,d1]
         | false=>
           obtain ⟨j,e,V9,bP,a2,a3,a4⟩:=g2 mL;obtain ⟨w',d1,d2⟩:=done (a.modify j fun e=>{e with key:=K,val:=Y}) clock (by simpa using a4) (by rw [mL];rfl);rw [mL] at d2;refine ⟨w',?_,d2⟩;rw [an8] at bP;have al:a[j]? =some e:=by simpa using a2
           simp only [Instr.mapUpdate,Sem.run_bind,hu,Result.andThen_ok,fr,kS,run_findKey n9 bP,al,Option.map,Option.getD,Instr.keyThatStays,a3,an7,Sem.run_pure,d1]
theorem SU {aB:Fr} {E:Env} {h ab:ah} {w:World} (s:bd aB E h w) {v:V} (he:zg h=.val v ab):dH aB P E w (do pure (.map (some (<-newObj (.map #[] 0))))) v ab:=by
 unfold zg at he;simp only [a8.val.injEq] at he;obtain ⟨rfl,rfl⟩:=he;have ec:=s.fresh h.next (anD _)
 have eP:E.put (aD h.next) ⟨w.heap.size,0,0⟩ (aD h.next)=some ⟨w.heap.size,0,0⟩:=by unfold Env.put;rw [anL rfl]
 refine ⟨.map (some w.heap.size),{w with heap:=w.heap.push (.map #[] 0)},_,?_,Env.nE (p:=⟨w.heap.size,0,0⟩) ec,?_,s.alloc 0 ?_⟩
 . simp only [Sem.run_bind,run_newObj,Result.andThen_ok,Sem.run_pure]
 . simp only [Rel];exact ⟨_,eP,rfl⟩
 . exact ⟨_,#[],eP,s.frame.size,by simp,rfl⟩
theorem aht {aB:Fr} {E:Env} {h ab:ah} {w:World} (s:bd aB E h w) {t:TypeId} {x:Option V} {X:Option Value} {v:V} (ar:iH E x X) (he:zc P t x h=.val v ab):dH aB P E w (Instr.makeMap t X) v ab:=by
 unfold zc at he;cases aE:bg P t with
 | none=>rw [aE] at he;cases he
 | some aO=>
   rw [aE] at he;simp only at he;have hu:=gf aE;cases aj:Nat.beq (fG aO.bl) 3 with
   | false=>rw [aj] at he;cases he
   | true=>
     rw [aj] at he;simp only [anC] at he;cases x with
     | none=>
       have:X=none:=by cases X with | none=>rfl | some _=>simp [iH] at ar
       subst this;simp only [wV] at he;have:=SU (P:=P) s he;exact this
     | some u=>
       simp only [wV] at he;obtain ⟨dB,n,rfl,J⟩:=s0 he;obtain ⟨Y,rfl,ga⟩:∃Y,X=some Y/\Rel E (.int dB n) Y:=by
        cases X with
        | none=>simp [iH] at ar
        | some Y=>simp only [iH] at ar;obtain ⟨L3,J,ad⟩:=ar;cases J;exact ⟨_,rfl,ad⟩
       have:=ga.jJ;subst this;obtain ⟨Z,w',ax,ag,av⟩:=SU (P:=P) s J;refine ⟨Z,w',ax,?_,av⟩;cases b3:aO.bl<;>rw [b3] at aj<;>simp [fG] at aj;have hu:=hu w;rw [b3] at hu;simp only [Instr.makeMap,Sem.run_bind,hu,Result.andThen_ok,asInt,Sem.run_pure];exact ag
theorem agZ {aB:Fr} {E:Env} {h ab:ah} {w:World} (s:bd aB E h w) {t:TypeId} {aO:oL} (aE:bg P t=some aO) (hm:uf aO.bl=true) {x v:V} {X:Value} (ar:Rel E x X) (ty:TypeId) (rest:List TypeId)
 (he:B4 [x] h=.val v ab):dH aB P E w (Builtin.len_ (t::rest).toArray ty #[X]) v ab:=by
 simp only [B4] at he;cases aL:rR h x with
 | none=>rw [aL] at he;cases he
 | some es=>
   rw [aL] at he;simp only [a8.val.injEq] at he;obtain ⟨rfl,rfl⟩:=he;have hu:=gf aE w;cases b3:aO.bl<;>rw [b3] at hm<;>simp [uf] at hm;rw [b3] at hu;rcases J7 (P:=P) s aL ar with ⟨rfl,rfl⟩ | ⟨ba,a,clock,rfl,fr,Br⟩
   . refine dH.plain (Z:=goInt 0) s ?_ (by simp [Rel,goInt]);simp [Builtin.len_,hu]
   . have hlen:∀(ms:List cM) (l:List MapEntry),e_ E ms l->l.length=ms.length:=by
      intro ms
      induction ms with
      | nil=>intro l h;simp only [e_] at h;subst h;rfl
      | cons m ms bC=>intro l h;obtain ⟨e,es,rfl,_,_,_,bn⟩:=h;simp [bC _ bn]
     refine dH.plain (Z:=goInt a.size) s ?_ ?_
     . simp [Builtin.len_,hu,fr]
     . have:=hlen _ _ Br;simp only [Array.length_toList] at this;simp [Rel,goInt,this]
end
section
variable {P:Program}
theorem PO {E:Env} {v:V} {Y:Value} (bB:Rel E v Y) {n:Nat}:∀(es:List cM) (l:List MapEntry) (r:List cM),ya n v es=some r->e_ E es l->
 ∃j,l.findIdx? (fun e=>(e.born:Int) == (n:Int))=some j/\e_ E r (l.modify j fun e=>{e with val:=Y})
 | [],l,r,h,aK=>by cases h
 | m::ms,l,r,h,aK=>by
   obtain ⟨e,es,rfl,J,ad,aC,bn⟩:=aK;simp only [ya] at h;cases aj:Nat.beq m.born n with
   | true=>
     rw [aj] at h;simp only [anC,ant] at h;subst h;have aX:=aom aj;refine ⟨0,by simp [List.findIdx?_cons,aC,aX],?_⟩;exact ⟨_,es,rfl,J,bB,aC,bn⟩
   | false=>
     rw [aj] at h;simp only [anN] at h;cases aA:ya n v ms with
     | none=>rw [aA] at h;cases h
     | some bH=>
       rw [aA] at h;simp only [ant] at h;subst h;obtain ⟨j,g1,g2⟩:=PO bB ms es bH aA bn;have eC:¬((e.born:Int) == (n:Int))=true:=by
        rw [aC];intro aq;have wv:(m.born:Int)=(n:Int):=by simpa using aq
        have ac9:m.born=n:=by omega
        rw [ac9,apN] at aj;cases aj
       refine ⟨j+1,by simp only [List.findIdx?_cons,eC];simp [g1],⟨e,_,by simp [List.modify],J,ad,aC,g2⟩⟩
theorem aai {aB:Fr} {E:Env} {h ab:ah} {w:World} (s:bd aB E h w) {t:TypeId} {x st v:V} {X S Y:Value} (ar:Rel E x X) (c8:Rel E st S) (bB:Rel E v Y) (he:AW h x st v=some ab):
 ∃w',(Instr.entryStore t X S Y).run P w=.ok () w'/\bd aB E ab w':=by
 unfold AW at he
 split at he
 case h_2=>cases he
 rename_i b
 split at he
 case h_2=>cases he
 rename_i dB m
 split at he
 case h_2=>cases he
 rename_i n;simp only [Rel] at ar c8;obtain ⟨p,ak,rfl⟩:=ar;subst c8;have aj:=s.at ak;cases an:h.get b<;>rw [an] at he<;>simp only [cn.lD] at he<;>try (cases he;done)
 rename_i es clock;rw [an] at aj;obtain ⟨q,a,J,dz,aC,bn⟩:=aj;rw [ak] at J;cases J;cases aA:ya n v es with
 | none=>rw [aA] at he;cases he
 | some r=>
   rw [aA] at he;simp only [ant] at he;subst he;obtain ⟨j,g1,g2⟩:=PO bB es a.toList r aA bn;have fr:(getObj p.bh).run P w=.ok (.map a clock) w:=by simp only [getObj,Sem.run,aC]
   have l7:=(anx.1 aC).1;have D_:a.findIdx? (fun e=>(e.born:Int) == (n:Int))=some j:=by rw [<-g1];cases a with | mk amJ=>simp
   have bF:(asInt (.int dB (Int.ofNat n))).run P w=.ok (n:Int) w:=by simp [asInt,asIntOf]
   refine ⟨{w with heap:=w.heap.setIfInBounds p.bh (.map (a.modify j fun e=>{e with val:=Y}) clock)},?_,s.set (p:=p) (by rw [an];rfl) ak dz (by simp) (fun j bI=>?_) rfl rfl rfl (fun _ _ _ e=>by cases e) ?_⟩
   . simp only [Instr.entryStore,Sem.run_bind,fr,Result.andThen_ok,bF,D_,setObj,Sem.run,aC]
   . simp only [anT];rw [anE (fun e=>bI e.symm)]
   . exact ⟨p,a.modify j fun e=>{e with val:=Y},ak,dz,by simp [l7],by rw [Array.toList_modify];exact g2⟩
theorem PR {w:World} {E:Env} {dC:TypeId} {e:ef} (kb:xK P w E dC e) {k:V} {K:Value} (ay:Rel E k K):∀(es:List cM) (l:List MapEntry) (r:Option cM) (i:Nat),yb e k es=some r->e_ E es l->
 (r=none->(Instr.findAsking dC K l i).run P w=.ok none w)/\
 (∀m,r=some m->∃j eV,(Instr.findAsking dC K l i).run P w=.ok (some (i+j,eV.val)) w/\l[j]? =some eV/\eV.key=K/\Rel E m.v eV.val/\eV.born=m.born/\Instr.sameBits 10000 K K=true/\e_ E es (l.modify j fun eV=>{eV with key:=K}))
 | [],l,r,i,h,aK=>by simp only [e_] at aK;subst aK;simp only [yb,ant] at h;subst h;exact ⟨fun _=>rfl,fun m hm=>by cases hm⟩
 | m::ms,l,r,i,h,aK=>by
   obtain ⟨eV,es,rfl,J,ad,aC,bn⟩:=aK;simp only [yb] at h;cases aL:e.run k m.k with
   | none=>rw [aL] at h;cases h
   | some b=>
     rw [aL] at h;simp only at h;obtain ⟨ag,av⟩:=kb _ _ _ _ _ aL ay J;cases b with
     | true=>
       simp only [anC,ant] at h;subst h;obtain ⟨aJ,bU⟩:=av rfl;refine ⟨fun h=>(by cases h),fun dD hm=>?_⟩;cases hm;exact ⟨0,eV,by simp [Instr.findAsking,ag],rfl,aJ,ad,aC,bU,⟨_,es,rfl,by rw [<-aJ];exact J,ad,aC,bn⟩⟩
     | false=>
       simp only [anN] at h;obtain ⟨g1,g2⟩:=PR kb ay ms es r (i+1) h bn;refine ⟨fun h=>by simp [Instr.findAsking,ag,g1 h],fun dD hm=>?_⟩;obtain ⟨j,aah,bP,a2,a3,a4,a5,ks,G1⟩:=g2 dD hm;exact ⟨j+1,aah,by simp [Instr.findAsking,ag,bP];omega,by simpa using a2,a3,a4,a5,ks,⟨eV,_,rfl,J,ad,aC,G1⟩⟩
theorem SC {aB:Fr} {E:Env} {h ab:ah} {w:World} (s:bd aB E h w) {t dC k':TypeId} (hu:(underlying t).run P w=.ok (.map dC k') w) {e:ef} {z:V} {Z:Value} (bJ:(zeroValue k').run P w=.ok Z w) (nz:Rel E z Z)
 {x k v:V} {X K:Value} (ar:Rel E x X) (ay:Rel E k K) (ask:zY P w E dC e K) (he:zd e z h x k=some (v,ab)):dH aB P E w (Instr.mapEntry t X K) v ab:=by
 unfold zd at he
 split at he
 case h_2=>cases he
 rename_i b;simp only [Rel] at ar;obtain ⟨p,ak,rfl⟩:=ar;have aj:=s.at ak;cases an:h.get b<;>rw [an] at he<;>simp only [cn.lD] at he<;>try (cases he;done)
 rename_i es clock;rw [an] at aj;obtain ⟨q,a,J,dz,aC,bn⟩:=aj;rw [ak] at J;cases J;have fr:(getObj p.bh).run P w=.ok (.map a clock) w:=by simp only [getObj,Sem.run,aC]
 have kS:=ask.check false;have l7:=(anx.1 aC).1;have AV:∀(rb:List cM) (bw:Array MapEntry) (hY:Nat),e_ E rb bw.toList->
  ∃w',(setObj p.bh (.map bw hY)).run P w=.ok () w'/\bd aB E (h.set b (.mp rb hY)) w':=by
  intro rb bw hY hm;refine ⟨{w with heap:=w.heap.setIfInBounds p.bh (.map bw hY)},by simp only [setObj,Sem.run,aC],s.set (p:=p) (by rw [an];rfl) ak dz (by simp) (fun j bI=>?_) rfl rfl rfl (fun _ _ _ e=>by cases e) ?_⟩
  . simp only [anT];rw [anE (fun e=>bI e.symm)]
  . exact ⟨p,bw,ak,dz,by simp [l7],hm⟩
 cases aA:yb e k es with
 | none=>rw [aA] at he;cases he
 | some r=>
   rw [aA] at he;simp only at he;obtain ⟨g1,g2⟩:=PR ask.eq ay es a.toList r 0 aA bn;cases r with
   | none=>
     simp only [ant,aoS] at he;obtain ⟨rfl,rfl⟩:=he;have bP:=ask.find (g1 rfl);obtain ⟨w',d1,d2⟩:=AV (es++[⟨k,z,clock⟩]) (a.push ⟨K,Z,clock⟩) (clock+1) (by
      have:∀(es:List cM) (l:List MapEntry),e_ E es l->e_ E (es++[⟨k,z,clock⟩]) (l++[⟨K,Z,clock⟩]):=by
       intro es
       induction es with
       | nil=>intro l aw;simp only [e_] at aw;subst aw;exact ⟨_,_,rfl,ay,nz,rfl,rfl⟩
       | cons m ms bC=>intro l aw;obtain ⟨eV,rb,rfl,b9,cA,kO,nU⟩:=aw;exact ⟨eV,_,rfl,b9,cA,kO,bC _ nU⟩
      simpa using this es a.toList bn)
     refine ⟨.tuple #[Z,goInt clock],w',E,?_,Env.le.refl E,?_,d2⟩
     . simp only [Instr.mapEntry,Sem.run_bind,hu,Result.andThen_ok,fr,kS,bP,bJ,d1,Sem.run_pure]
     . simp only [Rel,bm];exact ⟨_,rfl,_,_,rfl,nz,_,_,rfl,rfl,rfl⟩
   | some m=>
     simp only [ant,aoS] at he;obtain ⟨rfl,rfl⟩:=he;obtain ⟨j,eV,bP,a2,a3,a4,a5,ks,G1⟩:=g2 m rfl;rw [an8] at bP;have b9:=ask.find bP;have al:a[j]? =some eV:=by simpa using a2
     obtain ⟨w',d1,d2⟩:=AV es (a.modify j fun eV=>{eV with key:=K}) clock (by rw [Array.toList_modify];exact G1);refine ⟨.tuple #[eV.val,goInt eV.born],w',E,?_,Env.le.refl E,?_,d2⟩
     . simp only [Instr.mapEntry,Sem.run_bind,hu,Result.andThen_ok,fr,kS,b9,al,Option.map,Option.getD,a3,Instr.keyThatStays,ks,an7,Sem.run_pure,d1]
     . simp only [Rel,bm];exact ⟨_,rfl,_,_,rfl,a4,_,_,rfl,by rw [a5];rfl,rfl⟩
theorem ahx {aB:Fr} {E:Env} {h ab:ah} {w:World} (s:bd aB E h w) {t:TypeId} {x k v:V} {X K:Value} (ar:Rel E x X) (ay:Rel E k K) (he:(E9 P t).run x k h=.val v ab):dH aB P E w (Instr.mapEntry t X K) v ab:=by
 unfold E9 at he;cases aE:bg P t with
 | none=>rw [aE] at he;cases he
 | some aO=>
   rw [aE] at he;simp only at he;have hu:=gf aE w;cases b3:aO.bl<;>rw [b3] at he<;>simp only at he<;>try (cases he;done)
   rename_i dC k';rw [b3] at hu;cases het:bg P k' with
   | none=>rw [het] at he;cases he
   | some bj=>
     rw [het] at he;simp only at he;cases bJ:bj.zero with
     | none=>rw [bJ] at he;cases he
     | some z=>
       rw [bJ] at he;simp only at he;obtain ⟨u4,og,nz,_⟩:=zA (P:=P) het bJ E w;cases pw:j2 P dC with
       | true=>
         rw [pw] at he;simp only [anC,HN] at he;cases hm:zd ⟨ml h⟩ z h x k with
         | none=>rw [hm] at he;cases he
         | some r=>
           rw [hm] at he;simp only [a8.val.injEq] at he;obtain ⟨rfl,rfl⟩:=he;exact SC s hu og nz ar ay (G' s pw K) hm
       | false=>
         rw [pw] at he;simp only [anN] at he;cases c8:mW P dC with
         | false=>rw [c8] at he;cases he
         | true=>
           rw [c8] at he;simp only [anC,HO] at he;cases an:rK P dC k with
           | false=>rw [an] at he;cases he
           | true=>
             rw [an] at he;simp only [anC] at he;cases hm:zd (structEq P dC) z h x k with
             | none=>rw [hm] at he;cases he
             | some r=>
               rw [hm] at he;simp only [a8.val.injEq] at he;obtain ⟨rfl,rfl⟩:=he;exact SC s hu og nz ar ay (G_ c8 an ay) hm
end
section
variable {P:Program}
theorem Qt (n:Nat):∀(l:List Nat),tN l n=true↔n ∈ l
 | []=>by simp [tN]
 | x::xs=>by
   simp only [tN];cases aj:Nat.beq x n with
   | true=>have:=aom aj;subst this;simp
   | false=>
     have eC:x≠n:=fun e=>by subst e;rw [apN] at aj;cases aj
     simp [Qt n xs,Ne.symm eC]
theorem ab0 {a:Array Nat} {seen:List Nat} (h:a.toList=seen.reverse) (n:Nat):a.contains n=tN seen n:=by rw [aon,Qt,Array.contains_iff_mem,<-ao6,h,List.mem_reverse]
theorem Sk {E:Env} {a:Array Nat} {seen:List Nat} (h:a.toList=seen.reverse):∀(ms:List cM) (l:List MapEntry),e_ E ms l->e_ E (leftOf seen ms) (l.filter fun e=>!a.contains e.born)
 | [],l,aK=>by simp only [e_] at aK;subst aK;rfl
 | m::ms,l,aK=>by
   obtain ⟨e,es,rfl,J,ad,aC,bn⟩:=aK;have bC:=Sk h ms es bn;have aq:a.contains e.born=tN seen m.born:=by rw [ab0 h,aC]
   cases aj:tN seen m.born with
   | true=>
     rw [aj] at aq;rw [List.filter_cons_of_neg (by rw [aq];decide)];simp only [leftOf,aj,anC];exact bC
   | false=>
     rw [aj] at aq;rw [List.filter_cons_of_pos (by rw [aq];decide)];simp only [leftOf,aj,anN];exact ⟨e,_,rfl,J,ad,aC,bC⟩
theorem L6 {E:Env} {last:Nat}:∀(ms:List cM) (l:List MapEntry),e_ E ms l->l.all (fun e=>decide (e.born>=last))=xR last ms
 | [],l,aK=>by simp only [e_] at aK;subst aK;rfl
 | m::ms,l,aK=>by
   obtain ⟨e,es,rfl,J,ad,aC,bn⟩:=aK;simp only [xR,aoy,L6 ms es bn,aC];cases aj:Nat.ble last m.born with
   | true=>rw [anS] at aj;simp [aj]
   | false=>
     have:¬last<=m.born:=by rw [<-anS,aj];simp
     simp [this]
theorem Mw {E:Env} {n:Nat}:∀(ms:List cM) (l:List MapEntry) (m:cM),e_ E ms l->AG n ms=some m->∃e,l.find? (fun e=>e.born == n)=some e/\Rel E m.k e.key/\Rel E m.v e.val
 | [],l,m,aK,h=>by cases h
 | x::xs,l,m,aK,h=>by
   obtain ⟨e,es,rfl,J,ad,aC,bn⟩:=aK;simp only [AG] at h;cases aj:Nat.beq x.born n with
   | true=>
     rw [aj] at h;simp only [anC,ant] at h;subst h;have:=aom aj;exact ⟨e,by simp [List.find?_cons,aC,this],J,ad⟩
   | false=>
     rw [aj] at h;simp only [anN] at h;obtain ⟨dL,g1,g2⟩:=Mw xs es m bn h;have eC:x.born≠n:=fun e=>by rw [e,apN] at aj;cases aj
     exact ⟨dL,by simp [List.find?_cons,aC,eC,g1],g2⟩
theorem Ks {k:cn} {f:List cM->Nat->a8} {v:V} {ab:ah} (h:k.lD .fail f=.val v ab):∃es clock,k=.mp es clock/\f es clock=.val v ab:=by
 cases k<;>simp only [cn.lD] at h<;>first
  | (cases h;done)
  | exact ⟨_,_,rfl,h⟩
theorem Tc {v:V} {f:aU->Nat->a8} {r:V} {ab:ah} (h:v.j0 .fail f=.val r ab):∃b off,v=.ptr b off/\f b off=.val r ab:=by
 cases v<;>simp only [V.j0] at h<;>first
  | (cases h;done)
  | exact ⟨_,_,rfl,h⟩
theorem ajn {aB:Fr} {E:Env} {h ab:ah} {w:World} (s:bd aB E h w) {t dC k':TypeId} (hu:(underlying t).run P w=.ok (.map dC k') w) {x v:V} {X:Value} (ar:Rel E x X) (he:rangeMap x h=.val v ab):dH aB P E w (Instr.range t X) v ab:=by
 have ec:=s.fresh h.next (anD _)
 have eP:E.put (aD h.next) ⟨w.heap.size,0,0⟩ (aD h.next)=some ⟨w.heap.size,0,0⟩:=by unfold Env.put;rw [anL rfl]
 unfold rangeMap at he
 split at he
 . simp only [a8.val.injEq] at he;obtain ⟨rfl,rfl⟩:=he;simp only [Rel] at ar;subst ar;refine ⟨.pointer (some ⟨w.heap.size,0,none⟩),{w with heap:=w.heap.push (.mapIter none 0 #[] 0)},_,?_,Env.nE (p:=⟨w.heap.size,0,0⟩) ec,?_,s.alloc 0 ?_⟩
   . simp only [Instr.range,Sem.run_bind,hu,Result.andThen_ok,Sem.run_pure,run_newObj]
   . simp only [Rel];exact ⟨_,eP,by simp⟩
   . exact ⟨_,none,#[],eP,s.frame.size,rfl,by simp,rfl,rfl⟩
 . rename_i c;obtain ⟨es,clock,an,he⟩:=Ks he;simp only [a8.val.injEq] at he;obtain ⟨rfl,rfl⟩:=he;simp only [Rel] at ar;obtain ⟨p,ak,rfl⟩:=ar;have aj:=s.at ak;rw [an] at aj;obtain ⟨q,a,J,dz,aC,bn⟩:=aj;rw [ak] at J;cases J;have fr:(getObj p.bh).run P w=.ok (.map a clock) w:=by simp only [getObj,Sem.run,aC]
   have hle:E.le (E.put (aD h.next) ⟨w.heap.size,0,0⟩):=Env.nE ec;refine ⟨.pointer (some ⟨w.heap.size,0,none⟩),{w with heap:=w.heap.push (.mapIter (some p.bh) clock #[] clock)},_,?_,hle,?_,s.alloc 0 ?_⟩
   . simp only [Instr.range,Sem.run_bind,hu,Result.andThen_ok,Sem.run_pure,fr,run_newObj]
   . simp only [Rel];exact ⟨_,eP,by simp⟩
   . exact ⟨_,some p.bh,#[],eP,s.frame.size,rfl,by simp,rfl,p,hle _ _ ak,rfl⟩
 . cases he
theorem ahQ {aB:Fr} {E:Env} {h ab:ah} {w:World} (s:bd aB E h w) {x v:V} {X:Value} {ty:TypeId} (ar:Rel E x X) (he:hD x h=.val v ab):dH aB P E w (Instr.next X false ty) v ab:=by
 unfold hD at he;obtain ⟨b,off,rfl,J⟩:=Tc he;clear he;have aj:=s.at (p:=_) (by simp only [Rel] at ar;exact ar.choose_spec.1);cases an:h.get b<;>rw [an] at J<;>simp only at J<;>try (cases J;done)
 rename_i src since seen last;rw [an] at aj;cases a6:Nat.beq off 0 with
 | false=>rw [a6] at J;cases J
 | true=>
 rw [a6] at J;simp only [anC] at J;have a6:=aom a6;subst a6;obtain ⟨p,m,a,ak,dz,rj,bp,bF,jZ⟩:=aj;simp only [Rel] at ar;obtain ⟨q,aq,rfl⟩:=ar;rw [ak] at aq;cases aq;have fr:(getObj p.bh).run P w=.ok (.mapIter m since a last) w:=by simp only [getObj,Sem.run,bp]
 have over:Rel E (.tuple [.bool false]) (.tuple #[.bool false]):=by simp only [Rel,bm];exact ⟨_,rfl,_,_,rfl,rfl,rfl⟩
 cases src with
 | none=>
   simp only [vo] at jZ;subst jZ;simp only [a8.val.injEq] at J;obtain ⟨rfl,rfl⟩:=J;refine dH.plain (Z:=.tuple #[.bool false]) s ?_ over;simp only [Instr.next,rj,Sem.run_bind,fr,Result.andThen_ok,Sem.run_pure]
 | some c=>
   simp only [vo] at jZ;obtain ⟨zq,od,rfl⟩:=jZ;simp only at J;obtain ⟨es,clock,IL,J⟩:=Ks J;have tP:=s.at od;rw [IL] at tP;obtain ⟨q,ov,g1,_,g3,g4⟩:=tP;rw [od] at g1;cases g1;have Et:(getObj zq.bh).run P w=.ok (.map ov clock) w:=by simp only [getObj,Sem.run,g3]
   cases ao:(!seen.isEmpty&&(!es.isEmpty&&xR last es)) with
   | true=>rw [ao] at J;cases J
   | false=>
     rw [ao] at J;simp only [anN] at J;have al:a.isEmpty=seen.isEmpty:=by
      have:a.toList.isEmpty=seen.reverse.isEmpty:=by rw [bF]
      simpa using this
     have aN:ov.isEmpty=es.isEmpty:=by
      cases es with
      | nil=>simp only [e_] at g4;have:ov=#[]:=Array.toList_inj.1 g4
             simp [this]
      | cons y cT=>obtain ⟨e,l,aw,_⟩:=g4;have:ov.toList.isEmpty=false:=by rw [aw];rfl
                   simpa using this
     have cj:ov.all (fun e=>decide (e.born>=last))=xR last es:=by rw [<-L6 es _ g4,Array.all_toList]
     have Qx:(!a.isEmpty&&!ov.isEmpty&&ov.all (fun e=>decide (e.born>=last)))=false:=by rw [al,aN,cj,Bool.and_assoc];exact ao
     have Bp:=Sk (E:=E) bF es _ g4;have QD:(ov.filter fun e=>!a.contains e.born).toList=ov.toList.filter fun e=>!a.contains e.born:=by simp
     cases aw:leftOf seen es with
     | nil=>
       rw [aw] at J Bp;simp only [Kh,a8.val.injEq] at J;obtain ⟨rfl,rfl⟩:=J;simp only [e_] at Bp;have tK:(ov.filter fun e=>!a.contains e.born)=#[]:=by apply Array.toList_inj.1;rw [QD,Bp]
       refine dH.plain (Z:=.tuple #[.bool false]) s ?_ over;simp only [Instr.next,rj,Sem.run_bind,fr,Result.andThen_ok,Et,Qx,anV,an4,tK,Sem.run_pure];simp [choose,Sem.run,Question.forced]
     | cons y cT=>
       rw [aw] at J Bp;cases cT with
       | cons _ _=>cases J
       | nil=>
         simp only [Kh] at J;cases aH:Nat.blt y.born since with
         | false=>rw [aH] at J;cases J
         | true=>
           rw [aH] at J;simp only [anC,a8.val.injEq] at J;obtain ⟨rfl,rfl⟩:=J;rw [aoa] at aH;obtain ⟨e,r,aK,bX,b_,dY,eQ⟩:=Bp;simp only [e_] at eQ;subst eQ;have tK:(ov.filter fun e=>!a.contains e.born)=#[e]:=by apply Array.toList_inj.1;rw [QD,aK]
           rw [<-dY] at aH ⊢
           let cp:Obj:=.mapIter (some zq.bh) since (a.push e.born) clock
           let w':World:={w with heap:=w.heap.setIfInBounds p.bh cp}
           have l7:=(anx.1 bp).1;have qA:(setObj p.bh cp).run P w=.ok () w':=by simp only [setObj,Sem.run,bp];rfl
           have tT:¬since<=e.born:=by omega
           refine ⟨.tuple #[.bool true,e.key,e.val],w',E,?_,Env.le.refl E,?_,s.set (p:=p) (by rw [an];rfl) ak dz (by simp [w']) (fun j bI=>?_) rfl rfl rfl (fun _ _ _ e=>by cases e) ?_⟩
           . simp only [Instr.next,rj,Sem.run_bind,fr,Result.andThen_ok,Et,Qx,anV,an4,tK,Sem.run_pure];have J:(#[e]:Array MapEntry).filter (fun x=>decide (x.born<since))=#[e]:=by simp [aH]
             have ad:(#[e]:Array MapEntry).filter (fun x=>decide (x.born>=since))=#[]:=by simp [aH]
             have nr:(choose (.mapNext 1)).run P w=.ok 0 w:=by simp [choose,Sem.run,Question.forced]
             simp only [J,ad];simp [nr];change ((setObj p.bh cp).run P w).andThen _=_;rw [qA];rfl
           . simp only [Rel,bm];exact ⟨_,rfl,_,_,rfl,rfl,_,_,rfl,bX,_,_,rfl,b_,rfl⟩
           . simp only [w',anT];rw [anE (fun e=>bI e.symm)]
           . exact ⟨p,some zq.bh,a.push e.born,ak,dz,rj,by simp [w',l7,cp],by simp [bF],zq,od,rfl⟩
theorem aaj {aB:Fr} {E:Env} {h ab:ah} {w:World} (s:bd aB E h w) {x v:V} {X:Value} (ar:Rel E x X) (he:DW x h=.val v ab):dH aB P E w (Instr.entry X) v ab:=by
 unfold DW at he;obtain ⟨b,off,rfl,J⟩:=Tc he;clear he;have aj:=s.at (p:=_) (by simp only [Rel] at ar;exact ar.choose_spec.1);cases an:h.get b<;>rw [an] at J<;>simp only at J<;>try (cases J;done)
 rename_i src since seen last;rw [an] at aj;cases a6:Nat.beq off 0 with
 | false=>rw [a6] at J;cases J
 | true=>
 rw [a6] at J;simp only [anC] at J;have a6:=aom a6;subst a6;obtain ⟨p,m,a,ak,dz,rj,bp,bF,jZ⟩:=aj;simp only [Rel] at ar;obtain ⟨q,aq,rfl⟩:=ar;rw [ak] at aq;cases aq;have fr:(getObj p.bh).run P w=.ok (.mapIter m since a last) w:=by simp only [getObj,Sem.run,bp]
 cases src with
 | none=>cases J
 | some c=>
   simp only [vo] at jZ;obtain ⟨zq,od,rfl⟩:=jZ;simp only at J;cases seen with
   | nil=>cases J
   | cons n amV=>
   simp only at J;obtain ⟨es,clock,IL,J⟩:=Ks J;have tP:=s.at od;rw [IL] at tP;obtain ⟨q,ov,g1,_,g3,g4⟩:=tP;rw [od] at g1;cases g1;have Et:(getObj zq.bh).run P w=.ok (.map ov clock) w:=by simp only [getObj,Sem.run,g3]
   rename_i abH _;clear abH;cases kv:Nat.beq clock last with
   | false=>rw [kv] at J;cases J
   | true=>
     rw [kv] at J;simp only [anC] at J;have:=aom kv;subst this;cases Iu:AG n es with
     | none=>rw [Iu] at J;cases J
     | some y=>
       rw [Iu] at J;simp only [a8.val.injEq] at J;obtain ⟨rfl,rfl⟩:=J;obtain ⟨e,f1,f2,f3⟩:=Mw es _ y g4 Iu;have ab5:a.back? =some n:=by
        have:a.toList.getLast? =some n:=by rw [bF];simp
        simpa using this
       have tQ:ov.find? (fun e=>e.born == n)=some e:=by rw [<-f1];simp
       refine dH.plain (Z:=.tuple #[e.key,e.val]) s ?_ ?_
       . simp only [Instr.entry,rj,Sem.run_bind,fr,Result.andThen_ok,ab5,Et,bne_self_eq_false,anV,an4,tQ,Sem.run_pure]
       . simp only [Rel,bm];exact ⟨_,rfl,_,_,rfl,f2,_,_,rfl,f3,rfl⟩
end
section
variable {P:Program}
theorem Wz {aB:Fr} {E:Env} {h ab:ah} {w:World} (s:bd aB E h w) {t u e:TypeId} {size:Nat} (ac6:1<=size) {x v:V} {X Y:Value} {ty:TypeId} {n:Nat} {new:List V} {l:List Value}
 (aw:bm E new l) (bK:new.length=n * size) (gF:n<=top)
 (fo:∀(w':World) (A:Option Addr) (dt gg:Nat),dt+n<=gg->(∀a,A=some a->(storeCells (a.add (dt * size)) l).run P w=.ok () w')->(A=none->w'=w)->
   (Builtin.append_ #[t,u] ty #[.slice A dt gg,Y]).run P w=.ok (.slice A (dt+n) gg) w')
 (ky:∀(A:Option Addr) (dt gg:Nat) (cJ:List Value),(∀w':World,w'.heap=w.heap->(Builtin.firstCells size dt (.slice A dt gg)).run P w'=.ok cJ.toArray w')->¬dt+n<=gg->dt+n<=top->cJ.length=dt * size->l.length=n * size->
   ∃cap rest w',dt+n<=cap/\cap * size<=((cJ++l).toArray++rest).size/\
   (Builtin.append_ #[t,u] ty #[.slice A dt gg,Y]).run P w=.ok (.slice (some ⟨w.heap.size,0,none⟩) (dt+n) cap) w'/\
   w'.heap=w.heap.push (.cells ((cJ++l).toArray++rest) e)/\w'.os=w.os/\w'.tape=w.tape/\w'.output=w.output)
 (he:G7 size n new x h=.val v ab) (ar:Rel E x X):dH aB P E w (Builtin.append_ #[t,u] ty #[X,Y]) v ab:=by
 have qs:l.length=n * size:=by rw [aw.length,bK]
 unfold G7 at he;cases x<;>simp only at he<;>try (cases he;done)
 . -- a slice of known capacity
   rename_i b off len cap;simp only [Rel] at ar;obtain ⟨p,ak,sA,rfl⟩:=ar;simp only [tx] at he;cases fs:Nat.ble (len+n) cap with
   | true=>
     rw [fs] at he;simp only [anC] at he;rw [anS] at fs;cases l4:lay h b (off+len * size) new with
     | none=>rw [l4] at he;cases he
     | some J=>
     rw [l4] at he;simp only [a8.val.injEq] at he;obtain ⟨rfl,rfl⟩:=he;obtain ⟨w',c8,kg⟩:=y_ (P:=P) s aw l4 ak;refine ⟨_,w',E,fo w' _ _ _ fs (fun a bF=>?_) (fun bF=>by cases bF),Env.le.refl E,?_,kg⟩
     . cases bF;rw [add_eq,aoH];exact c8
     . simp only [Rel];exact ⟨p,ak,fs,rfl⟩
   | false=>
     rw [fs] at he;simp only [anN] at he;have Jg:¬len+n<=cap:=by rw [<-anS,fs];simp
     obtain ⟨aj,he⟩:=jV he;simp only [anu,anS] at aj;cases hold:pT h size b off len with
     | none=>rw [hold] at he;cases he
     | some cJ=>
     rw [hold] at he;simp only at he;cases gQ:mf h (cJ++new) size false with
     | none=>rw [gQ] at he;cases he
     | some J=>
     rw [gQ] at he;simp only [a8.val.injEq] at he;obtain ⟨rfl,rfl⟩:=he;obtain ⟨q,bQ,aq,eB,qv,iA⟩:=zG (P:=P) s ⟨p,ak⟩ hold;rw [ak] at aq;cases aq;obtain ⟨c,rest,w',bX,b_,dY,eQ,fz,il,hS⟩:=ky (some ⟨p.bh,p.base+off,none⟩) (len) (cap) _
      (fun w' hw=>by simp only [Builtin.firstCells];exact iA w' hw) Jg aj.1 (by rw [eB.length,qv]) qs
     obtain ⟨ax,g1,g2,g3⟩:=wZ (w':=w') (b5:=(0,0)) s (eB.append aw) gQ b_ (.inr (anD _)) (fun _=>rfl) eQ fz il hS;refine ⟨_,w',ax,dY,g1,?_,g3⟩;simp only [Rel];exact ⟨_,g2,by simp only;omega,by simp⟩
 . -- one that was appended to
   rename_i b off len idx;have qC:=ar;simp only [Rel] at ar;obtain ⟨p,ak,QH,rfl⟩:=ar;simp only [tw] at he;cases iP:Nat.beq n 0 with
   | true=>
     rw [iP] at he;simp only [anC] at he;cases he;rw [an6] at iP;subst iP;have l3:l=[]:=by cases l with | nil=>rfl | cons _ _=>simp at qs
     subst l3;refine ⟨_,w,E,fo w _ _ _ (by omega) (fun a _=>rfl) (fun bF=>by cases bF),Env.le.refl E,?_,s⟩;simpa using qC
   | false=>
     rw [iP] at he;simp only [anN] at he;have rk:=s.at ak;cases an:h.get b with
     | dead=>rw [an] at he;cases he
     | view _ _=>rw [an] at he;cases he
     | iter _ _=>rw [an] at he;cases he
     | mp _ _=>rw [an] at he;cases he
     | gx _=>rw [an] at he;cases he
     | gp=>rw [an] at he;cases he
     | iF _=>rw [an] at he;cases he
     | ki _ _ _ _=>rw [an] at he;cases he
     | cells N cs cH st=>
       rw [an] at he rk;simp only [cn.on] at he;obtain ⟨aj,he⟩:=jV he;simp only [anu,anS,an6] at aj;obtain ⟨⟨IE,I8,I9⟩,Bu⟩:=aj;cases hold:pT h size b off len with
       | none=>rw [hold] at he;cases he
       | some cJ=>
       rw [hold] at he;simp only at he;cases gQ:mf (h.set b .dead) (cJ++new) size st with
       | none=>rw [gQ] at he;cases he
       | some J=>
       rw [gQ] at he;simp only [a8.val.injEq] at he;obtain ⟨rfl,rfl⟩:=he;obtain ⟨q,bQ,aq,eB,qv,iA⟩:=zG (P:=P) s ⟨p,ak⟩ hold;rw [ak] at aq;cases aq;obtain ⟨aM,q,c,el,b5,al,dz,bp,rn,c8,lf,bz⟩:=rk;rw [ak] at al;cases al;have Bv:=ac6;have lf:=lf (by omega);rw [IE] at lf;have CK:=s.kill ak;by_cases fs:len+n<=p.cap-idx
       . -- in place
         have aH:=(anx.1 bp).1;have acB:(idx+len+n) * size<=p.cap * size:=aoj _ (by omega);have hbound:p.base+off+len * size+0+l.length<=c.size:=by
          rw [qs,Bu];have:(idx+len+n) * size=idx * size+len * size+n * size:=by rw [aor,aor]
          omega
         have BE:=F4 (P:=P) aH el b5 (p.base+off+len * size) l c 0 (Fo I9 aw) hbound rn;rw [Ln bp,ao7] at BE;have Ji:=fo (mr w p.bh (qF c (p.base+off+len * size) l) el b5) (some ⟨p.bh,p.base+off,none⟩) _ _ fs
          (fun a bF=>by cases bF;rw [add_eq];exact BE) (fun bF=>by cases bF)
         unfold mf at gQ;obtain ⟨ao,gQ⟩:=fg gQ;simp only [anu,anS] at ao;simp only [ant] at gQ;subst gQ;have ec:=s.fresh h.next (anD _)
         have hle:E.le (E.put (aD h.next) ⟨p.bh,p.base+off,p.cap-idx⟩):=Env.nE ec;have eP:E.put (aD h.next) ⟨p.bh,p.base+off,p.cap-idx⟩ (aD h.next)=some ⟨p.bh,p.base+off,p.cap-idx⟩:=by unfold Env.put;rw [anL rfl]
         refine ⟨_,_,_,Ji,hle,?_,bd.add (p:=⟨p.bh,p.base+off,p.cap-idx⟩) CK (by rw [Lo];exact anD _) (fun j _ bI=>Lm _ _ _ bI) dz (fun bV fH jH sF heq=>?_) rfl rfl rfl (fun _ _ _ e=>by injection e with _ _ cj;omega) ?_⟩
         . simp only [Rel];exact ⟨_,eP,by simp only;omega,by simp⟩
         . rw [ah.fh] at jH;by_cases kd:b=bV
           . rw [anL kd] at jH;cases jH
           . rw [anE kd] at jH;exact kd (s.inj b bV p fH (by rw [an];rfl) jH ak sF heq.symm)
         . have e6:(cJ++new).length=(len+n) * size:=by rw [anw,qv,bK,aor]
           have acq:(len+n) * size=len * size+n * size:=aor _ _ _;refine ⟨ao.1,_,_,el,b5,eP,dz,CR aH _ _ _,by rw [rL];exact rn,c8,fun _=>?_,?_⟩
           . rw [rL];simp only;have:idx * size + (p.cap-idx) * size=p.cap * size:=by rw [<-aor];congr 1;omega
             omega
           . refine ⟨by rw [rL,e6,aor];simp only;omega,fun i y au bc=>?_⟩;rw [CD _ _ _ _ (by omega) (by omega),anL (by omega),apF];rw [EU _ _ _ _ (by omega)] at bc;simp only at bc;by_cases cP:i<len * size
             . rw [anE (by omega)] at bc;rw [anX (by omega)];have fr:=iA w rfl;have Jd:=run_loadCells (P:=P) (w:=w) (off:=p.base+off) (n:=len * size) bp (by omega);rw [Jd] at fr;simp only [Result.ok.injEq,apI] at fr;have Bq:bQ=(c.toList.drop (p.base+off)).take (len * size):=by
                have:=congrArg Array.toList fr;simpa using this.symm
               obtain ⟨qW,h0,aK⟩:=eB.get i cJ[i] (anv (by omega));rw [anv (by omega)];rw [Bq] at h0;rw [aox (by omega),aoJ] at h0;simp only [apa] at h0;rw [bc] at h0;cases h0;exact Rel.mono hle _ _ aK
             . rw [anL (by omega)] at bc;rw [anW (by omega)];have cj:p.base+off+i - (p.base+off+len * size)=i-cJ.length:=by omega
               rw [cj] at bc;have rv:i-cJ.length<new.length:=by omega
               obtain ⟨qW,h0,aK⟩:=aw.get (i-cJ.length) new[i-cJ.length] (anv rv);rw [bc] at h0;cases h0;rw [anv rv];exact Rel.mono hle _ _ aK
       . -- elsewhere
         obtain ⟨cu,rest,w',bX,b_,dY,eQ,fz,il,hS⟩:=ky (some ⟨p.bh,p.base+off,none⟩) (len) (p.cap-idx) _
          (fun w' hw=>by simp only [Builtin.firstCells];exact iA w' hw) fs I8 (by rw [eB.length,qv]) qs
         obtain ⟨ax,g1,g2,g3⟩:=wZ (w':=w') (b5:=(0,0)) CK (eB.append aw) gQ b_ (.inr (anD _)) (fun _=>rfl) eQ fz il hS;refine ⟨_,w',ax,dY,g1,?_,g3⟩;simp only [Rel];exact ⟨_,g2,by simp only;omega,by simp⟩
 . -- nil
   simp only [Rel] at ar;subst ar;simp only [tz] at he;cases iP:Nat.beq n 0 with
   | true=>
     rw [iP] at he;simp only [anC] at he;cases he;rw [an6] at iP;subst iP;exact dH.plain s (fo w _ _ _ (by omega) (fun a bF=>by cases bF) (fun _=>rfl)) (by simp [Rel])
   | false=>
     rw [iP] at he;simp only [anN] at he;have yE:¬n=0:=by intro e;subst e;simp at iP
     cases gQ:mf h new size false with
     | none=>rw [gQ] at he;cases he
     | some J=>
     rw [gQ] at he;simp only [a8.val.injEq] at he;obtain ⟨rfl,rfl⟩:=he;obtain ⟨c,rest,w',bX,b_,dY,eQ,fz,il,hS⟩:=ky (none) (0) (0) []
      (fun w' _=>by simp [Builtin.firstCells]) (by omega) (by omega) (by simp) qs
     obtain ⟨ax,g1,g2,g3⟩:=wZ (w':=w') (b5:=(0,0)) s aw gQ b_ (.inr (anD _)) (fun _=>rfl) eQ fz il hS;refine ⟨_,w',ax,dY,g1,?_,g3⟩;simp only [Rel];exact ⟨_,g2,by simp only;omega,by simp⟩
structure GZ (P:Program) (t u e:TypeId) (size bytes:Nat) (k:IntKind) (z:Value):Prop where
 ut:∀w,(underlying t).run P w=.ok (.slice e) w
 tg:∀w,(underlying u).run P w=.ok (.int k) w
 lM:∀w,(sizeOf e).run P w=.ok size w
 DH:∀w,∃i,(typeInfo e).run P w=.ok i w/\i.bytes=bytes
 zW:∀w,(zeroValue e).run P w=.ok z w
 p0:z.cells.size=size
 pos:1<=size
 small:bytes<=4096
theorem Vy (c:Array Value):Builtin.zeroCells c 0=#[]:=by simp [Builtin.zeroCells]
theorem aj1 {t u e:TypeId} {size bytes:Nat} {k:IntKind} {z:Value} (H:GZ P t u e size bytes k z) {n:Nat} (aX:n<=100000) {ty:TypeId} {w w':World} {A:Option Addr} {dt gg:Nat} (fs:dt+n<=gg)
 (c8:∀a,A=some a->(storeCells (a.add (dt * size)) (Builtin.zeroCells z.cells n).toList).run P w=.ok () w') (ec:A=none->w'=w):
 (Builtin.append_ #[t,u] ty #[.slice A dt gg,.int .i64 n]).run P w=.ok (.slice A (dt+n) gg) w':=by
 have hw:IntKind.i64.wrap (n:Int)=n:=by unfold IntKind.wrap;simp [IntKind.bits,IntKind.signed];omega
 obtain ⟨i,au,rp⟩:=H.DH w;have tJ:¬(281474976710656 < (n:Int) * (i.bytes:Int)):=by rw [rp];have J:n * bytes<=100000 * 4096:=Nat.mul_le_mul aX H.small;have ad:((n * bytes:Nat):Int)=(n:Int) * (bytes:Int):=Int.natCast_mul _ _;omega
 have sE:¬((n:Int)<0):=by omega
 have cx:size≠0:=by have:=H.pos;omega
 have bF:∀w,(asInt (.int .i64 (n:Int))).run P w=.ok (n:Int) w:=fun w=>by simp [asInt,asIntOf]
 have Em:∀w,(asInt (.int .i64 0)).run P w=.ok 0 w:=fun w=>by simp [asInt,asIntOf]
 have yU:IntKind.i64.wrap 0=0:=by decide
 cases A with
 | none=>
   have:=ec rfl;subst this;by_cases a6:n=0
   . subst a6;simp [Builtin.append_,H.ut,H.tg,H.lM,Em,au,yU,(show dt<=gg from by omega)]
   . simp [Builtin.append_,H.ut,H.tg,H.lM,H.zW,bF,au,tJ,hw,fs,sE,cx,a6]
 | some a=>
   have:=c8 a rfl;by_cases a6:n=0
   . subst a6;rw [Vy] at this;simp [Builtin.append_,H.ut,H.tg,H.lM,Em,au,yU,(show dt<=gg from by omega),this]
   . simp [Builtin.append_,H.ut,H.tg,H.lM,H.zW,bF,au,tJ,hw,fs,sE,Nat.mul_ne_zero a6 cx,this]
theorem aj2 {t u e:TypeId} {size bytes:Nat} {k:IntKind} {z:Value} (H:GZ P t u e size bytes k z) {n:Nat} (aX:n<=100000) {ty:TypeId} {w:World} (A:Option Addr) (dt gg:Nat) (cJ:List Value)
 (hold:∀w':World,w'.heap=w.heap->(Builtin.firstCells size dt (.slice A dt gg)).run P w'=.ok cJ.toArray w') (fs:¬dt+n<=gg) (BD:dt+n<=top) (a1:cJ.length=dt * size) (aw:(Builtin.zeroCells z.cells n).toList.length=n * size):
 ∃cap rest w',dt+n<=cap/\cap * size<=((cJ++(Builtin.zeroCells z.cells n).toList).toArray++rest).size/\
  (Builtin.append_ #[t,u] ty #[.slice A dt gg,.int .i64 n]).run P w=.ok (.slice (some ⟨w.heap.size,0,none⟩) (dt+n) cap) w'/\
  w'.heap=w.heap.push (.cells ((cJ++(Builtin.zeroCells z.cells n).toList).toArray++rest) e)/\w'.os=w.os/\w'.tape=w.tape/\w'.output=w.output:=by
 have hw:IntKind.i64.wrap (n:Int)=n:=by simp only [IntKind.wrap,IntKind.bits,IntKind.signed];simp;omega
 obtain ⟨i,au,rp⟩:=H.DH w;have l8:P.info? e=some i:=by
  simp only [typeInfo,Sem.run_bind,run_program,Result.andThen_ok] at au;cases aq:P.info? e with
  | none=>rw [aq] at au;simp at au
  | some j=>rw [aq] at au;simp at au;rw [au]
 have kf:∀w',(typeInfo e).run P w'=.ok i w':=fun w'=>zz l8 w';have adL:¬(281474976710656 < (n:Int) * (i.bytes:Int)):=by rw [rp];have J:n * bytes<=100000 * 4096:=Nat.mul_le_mul aX H.small;have ad:((n * bytes:Nat):Int)=(n:Int) * (bytes:Int):=Int.natCast_mul _ _;omega
 have tJ:¬(281474976710656<Builtin.nextslicecap (dt+n) gg * i.bytes):=by
  have J:gg<dt+n:=by omega
  have:=growslice_fits (bytes:=i.bytes) J (by rw [rp];have ad:(dt+n) * bytes<=top * 4096:=Nat.mul_le_mul BD H.small;unfold top at ad;omega);omega
 have jE:¬(9223372036854775807 < ((dt:Int) + (n:Int))):=by unfold top at BD;omega
 have sE:¬((n:Int)<0):=by omega
 have cx:size≠0:=by have:=H.pos;omega
 have bF:∀w,(asInt (.int .i64 (n:Int))).run P w=.ok (n:Int) w:=fun w=>by simp [asInt,asIntOf]
 have Em:∀w,(asInt (.int .i64 0)).run P w=.ok 0 w:=fun w=>by simp [asInt,asIntOf]
 have yU:IntKind.i64.wrap 0=0:=by decide
 let q:Question:=.appendCap (dt+n) gg e
 let cap:=q.cut (w.tape w.drawn q)
 have lf:dt+n<=cap:=by show dt+n<=(dt+n)+_;omega
 refine ⟨cap,Builtin.zeroCells z.cells (cap - (dt+n)),w.drew.alloc (.cells ((cJ++(Builtin.zeroCells z.cells n).toList).toArray++Builtin.zeroCells z.cells (cap - (dt+n))) e),lf,?_,?_,rfl,rfl,rfl,rfl⟩
 . simp only [Array.size_append,List.size_toArray,anw,a1,aw];have:(Builtin.zeroCells z.cells (cap - (dt+n))).size=(cap - (dt+n)) * size:=by simp [Builtin.zeroCells,H.p0]
   rw [this,<-aor,<-aor];exact aoj _ (by omega)
 . have f2:=hold w.drew rfl;by_cases a6:n=0
   . subst a6;have Bz:¬dt<=gg:=by omega
     have ab4:¬(9223372036854775807 < (dt:Int)):=by omega
     rw [ao7] at tJ;simp [Builtin.append_,H.ut,H.tg,H.lM,H.zW,Em,yU,kf,Bz,tJ,ab4,Question.forced,f2,newRow];refine ⟨rfl,?_⟩;have al:(cJ++(Builtin.zeroCells z.cells 0).toList).toArray=cJ.toArray:=by rw [Vy];simp
     rw [al];rfl
   . simp [Builtin.append_,H.ut,H.tg,H.lM,H.zW,bF,hw,adL,sE,Nat.mul_ne_zero a6 cx,fs,kf,tJ,jE,Question.forced,f2,newRow];refine ⟨rfl,?_⟩;have al:(cJ++(Builtin.zeroCells z.cells n).toList).toArray=cJ.toArray++Builtin.zeroCells z.cells n:=by simp
     rw [al,Array.append_assoc]
end
section
variable {P:Program}
abbrev cd (rd:Option Nat):Fence:={fn:=fun _=>True,depth:=none,alive:=false,round:=rd}
theorem sl {rd:Option Nat} {n:Nat} {f:FuncId} {args:Array Value} {w:World} {R:Ending->World->Prop}:CallsIn (cd rd) n P f args w R↔Calls P f args w R:=callsIn_wide
theorem K2 {rd:Option Nat} (n:Nat):(cd rd).room n:=fun _ h=>by simp [cd] at h
abbrev qK (x:Value):List PanicEntry:=[{v:=x,recovered:=false}]
structure hA (P:Program) (call:eA):Prop where
 fn:∀(aB:Fr) f args h v ab,f≠dy->call f args h=.val v ab->∀E w xs,bm E args xs->bd aB E h w->
  ((∃fn,P.funcs[f]? =some fn/\fn.body.isSome=true)/\Calls P f xs.toArray w fun e w'=>∃ax x,e=.returned x/\E.le ax/\Rel ax v x/\bd aB ax ab w')\/
  ∃ax x w',(callFunc f xs.toArray).run P w=.ok (.value x) w'/\E.le ax/\Rel ax v x/\bd aB ax ab w'
 c1:∀(aB:Fr) f args h v ab,f≠dy->call f args h=.c1 v ab->∀E w xs,bm E args xs->bd aB E h w->
  (∃fn,P.funcs[f]? =some fn/\fn.body.isSome=true)/\Calls P f xs.toArray w fun e w'=>∃ax x,e=.panicked (qK x)/\E.le ax/\Rel ax v x/\bd aB ax ab w'
 Vv:∀(aB:Fr) args b h v ab,call dy (args++[.ptr b 0]) h=.val v ab->∀E w xs p,bm E args xs->bd aB E h w->E b=some p->
  ∃f tmps assign body,(Instr.yield p.bh xs.toArray).run P w=.ok (.round p.bh f tmps assign body) w/\
   RoundIn (cd none) 0 P p.bh f tmps assign body w fun e w'=>∃ax x,e=.returned x/\E.le ax/\Rel ax v x/\bd aB ax ab w'
 zV:∀args h v ab,call dy args h≠.c1 v ab
theorem qQ {rd:Option Nat} {o:Oper} (pt:∀c,o.op≠.defer c) (ρ:Operand->Value):o.semAt (cd rd).round ρ=execOp ρ o:=Oper.semAt_eq _ ρ o pt
theorem gW {rd:Option Nat} {o:Oper} {a:Act} {w:World} {aB:Fr} {E:Env} {ab:ah} {v:V} {m:Sem Value} {K:Act->World->Prop} {Q:Exit->Act->World->Prop}
 (ar:execOp a.eval o=(do pure (.value (<-m)))) (g:dH aB P E w m v ab) (dW:∀ax x w',E.le ax->Rel ax v x->bd aB ax ab w'->K (a.put o.dst x) w') (pt:∀c,o.op≠.defer c:=by intro c h;cases h):
 o.wpIn (cd rd) 0 P a w K Q:=by
 obtain ⟨Z,w',ax,J,ad,aC,bn⟩:=g;refine ⟨fun _ _=>trivial,?_⟩;rw [qQ pt,ar,Sem.run_bind,J];exact dW ax Z w' ad aC bn
theorem Fv {E:Env} {az:Nat} {r:bO} {a:Act} (k:RegRel0 E az r a):∀l:List (Nat × Operand),sa E ((uJ l).run r) (l.map fun (i,x)=>(i,a.eval x))
 | []=>rfl
 | (i,x)::l=>by simp only [uJ,List.map,sa];exact ⟨_,_,rfl,eb k x,Fv k l⟩
theorem Ft {E:Env} {az:Nat} {r:bO} {a:Act} (k:RegRel0 E az r a) (x:Option Operand):iH E ((rT x).run r) (x.map a.eval):=by
 cases x with
 | none=>rfl
 | some x=>simp only [rT,iH,Option.map];exact ⟨_,rfl,eb k x⟩
theorem aii {v:V} {f:aU->Nat->a8} {r:V} {h:ah} (he:v.j0 .fail f=.val r h):∃b off,v=.ptr b off/\f b off=.val r h:=by
 cases v<;>simp only [V.j0] at he<;>first
  | (cases he;done)
  | exact ⟨_,_,rfl,he⟩
theorem ahS {aB:Fr} {E:Env} {h ab:ah} {w:World} (s:bd aB E h w) {x v:V} {X:Value} {ty:TypeId} (ar:Rel E x X) (he:w0 x h=.val v ab):dH aB P E w (Instr.next X true ty) v ab:=by
 unfold w0 at he;obtain ⟨b,off,rfl,J⟩:=aii he;have aj:=s.at (p:=_) (by simp only [Rel] at ar;exact ar.choose_spec.1);cases an:h.get b with
 | dead=>rw [an] at J;cases J
 | view _ _=>rw [an] at J;cases J
 | cells _ _ _ _=>rw [an] at J;cases J
 | mp _ _=>rw [an] at J;cases J
 | gx _=>rw [an] at J;cases J
 | gp=>rw [an] at J;cases J
 | iF _=>rw [an] at J;cases J
 | ki _ _ _ _=>rw [an] at J;cases J
 | iter st pos=>
   rw [an] at J aj;simp only at J;obtain ⟨a6,ad⟩:=jV J;rw [an6] at a6;subst a6;obtain ⟨p,ak,dz,rj,bp⟩:=aj;simp only [Rel] at ar;obtain ⟨q,aq,rfl⟩:=ar;rw [ak] at aq;cases aq;have fr:(getObj p.bh).run P w=.ok (.stringIter ⟨⟨st⟩⟩ pos) w:=by simp only [getObj,Sem.run,bp]
   have cx:(⟨⟨st⟩⟩:ByteArray).size=st.length:=rfl;cases aH:Nat.blt pos st.length with
   | true=>
     rw [aH] at ad;simp only [anC,a8.val.injEq] at ad;obtain ⟨rfl,rfl⟩:=ad;rw [aoa] at aH
     let cp:Obj:=.stringIter ⟨⟨st⟩⟩ (pos + (decodeL st pos).2)
     let w':World:={w with heap:=w.heap.setIfInBounds p.bh cp}
     have l7:=(anx.1 bp).1;have qA:(setObj p.bh cp).run P w=.ok () w':=by simp only [setObj,Sem.run,bp];rfl
     refine ⟨.tuple #[.bool true,goInt pos,.int .i32 (decodeL st pos).1],w',E,?_,Env.le.refl E,?_,s.set (p:=p) (by rw [an];rfl) ak dz (by simp [w']) (fun j bI=>?_) rfl rfl rfl (fun _ _ _ e=>by cases e) ?_⟩
     . simp only [Instr.next,rj,Sem.run_bind,fr,Result.andThen_ok,cx,anL aH];have:(Utf8.decode (⟨⟨st⟩⟩:ByteArray) pos)=decodeL st pos:=rfl;simp only [this];rw [qA];rfl
     . simp only [Rel,bm];exact ⟨_,rfl,_,_,rfl,rfl,_,_,rfl,rfl,_,_,rfl,rfl,rfl⟩
     . simp only [w',anT];rw [anE (fun e=>bI e.symm)]
     . exact ⟨p,ak,dz,rj,by simp [w',l7,cp]⟩
   | false=>
     rw [aH] at ad;simp only [anN,a8.val.injEq] at ad;obtain ⟨rfl,rfl⟩:=ad;have qu:¬pos<st.length:=by rw [<-aoa,aH];simp
     refine dH.plain (Z:=.tuple #[.bool false]) s ?_ ?_
     . simp only [Instr.next,rj,Sem.run_bind,fr,Result.andThen_ok,cx,anE qu,Sem.run_pure]
     . simp only [Rel,bm];exact ⟨_,rfl,_,_,rfl,rfl,rfl⟩
theorem ajm {aB:Fr} {E:Env} {h ab:ah} {w:World} (s:bd aB E h w) {t:TypeId} {x v:V} {X:Value} (ar:Rel E x X) (he:(FP P t).run x h=.val v ab):dH aB P E w (Instr.range t X) v ab:=by
 unfold FP at he;cases aE:bg P t with
 | none=>rw [aE] at he;cases he
 | some aO=>
   rw [aE] at he;simp only at he;have hu:=gf aE;cases b3:aO.bl with
   | string=>
     rw [b3] at he hu;simp only at he;cases x<;>simp only at he<;>try (cases he;done)
     rename_i st;simp only [a8.val.injEq] at he;obtain ⟨rfl,rfl⟩:=he;have:=ar.te;subst this;have ec:=s.fresh h.next (anD _)
     have eP:E.put (aD h.next) ⟨w.heap.size,0,0⟩ (aD h.next)=some ⟨w.heap.size,0,0⟩:=by unfold Env.put;rw [anL rfl]
     refine ⟨.pointer (some ⟨w.heap.size,0,none⟩),{w with heap:=w.heap.push (.stringIter ⟨⟨st⟩⟩ 0)},_,?_,Env.nE (p:=⟨w.heap.size,0,0⟩) ec,?_,s.alloc 0 ?_⟩
     . simp only [Instr.range,Sem.run_bind,hu,Result.andThen_ok,Sem.run_pure,run_newObj]
     . simp only [Rel];exact ⟨_,eP,by simp⟩
     . exact ⟨_,eP,s.frame.size,rfl,by simp⟩
   | map dC k'=>
     rw [b3] at he hu;exact ajn s (hu w) ar he
   | _=>rw [b3] at he;cases he
theorem Ww {aB:Fr} {E:Env} {h ab:ah} {w:World} (s:bd aB E h w) {t u:TypeId} {x y v:V} {X Y:Value} {ty:TypeId}
 (he:(Dv P t u).run x y h=.val v ab) (ar:Rel E x X) (bc:Rel E y Y):dH aB P E w (Builtin.append_ #[t,u] ty #[X,Y]) v ab:=by
 unfold Dv at he;cases aE:bg P t with
 | none=>rw [aE] at he;cases he
 | some aO=>
   cases hu:bg P u with
   | none=>rw [aE,hu] at he;cases he
   | some mq=>
     rw [aE,hu] at he;simp only at he
     have main:(∀k,mq.bl≠.int k)->(match aO.bl with
      | .slice e=>match bg P e with
        | none=>(⟨fun _ _ _=>.fail⟩:zX)
        | some bj=>match bj.zero with
          | none=>⟨fun _ _ _=>.fail⟩
          | some z=>bif Nat.ble 1 bj.size&&Nat.ble bj.bytes 4096&&Nat.beq z.cells.length bj.size then ⟨jz bj.size⟩ else ⟨fun _ _ _=>.fail⟩
      | _=>⟨fun _ _ _=>.fail⟩).run x y h=.val v ab->dH aB P E w (Builtin.append_ #[t,u] ty #[X,Y]) v ab:=by
      intro rz he;cases b3:aO.bl with
      | slice e=>
        rw [b3] at he;simp only at he;cases cI:bg P e with
        | none=>rw [cI] at he;cases he
        | some bj=>
          rw [cI] at he;simp only at he;cases bJ:bj.zero with
          | none=>rw [bJ] at he;cases he
          | some z=>
            rw [bJ] at he;simp only at he;cases ao:(Nat.ble 1 bj.size&&Nat.ble bj.bytes 4096&&Nat.beq z.cells.length bj.size) with
            | false=>rw [ao] at he;cases he
            | true=>
              rw [ao] at he;simp only [anC] at he;simp only [anu,anS,an6] at ao;obtain ⟨mv,wF,_,py⟩:=tj (P:=P) (E:=E) cI bJ w;refine Wy s ⟨fun w=>?_,⟨mq.bl,fun w=>gf hu w,rz⟩,fun w=>kH cI w,fun w=>F2 cI w,⟨mv,wF,by rw [py];exact ao.2⟩,ao.1.1,ao.1.2⟩ he ar bc;have:=gf aE w;rw [b3] at this;exact this
      | _=>rw [b3] at he;cases he
     cases yS:mq.bl with
     | int k=>
       rw [yS] at he;simp only at he;cases b3:aO.bl with
       | slice e=>
         rw [b3] at he;simp only at he;cases cI:bg P e with
         | none=>rw [cI] at he;cases he
         | some bj=>
           rw [cI] at he;simp only at he;cases bJ:bj.zero with
           | none=>rw [bJ] at he;cases he
           | some z=>
             rw [bJ] at he;simp only at he;cases ao:(Nat.ble 1 bj.size&&Nat.ble bj.bytes 4096&&Nat.beq z.cells.length bj.size) with
             | false=>rw [ao] at he;cases he
             | true=>
               rw [ao] at he;simp only [anC] at he;simp only [anu,anS,an6] at ao;obtain ⟨mv,wF,Ju,py⟩:=tj (P:=P) (E:=E) cI bJ w;have yT:∀w,(underlying t).run P w=.ok (.slice e) w:=fun w=>by have:=gf aE w;rw [b3] at this;exact this
               have Jn:∀w,(underlying u).run P w=.ok (.int k) w:=fun w=>by have:=gf hu w;rw [yS] at this;exact this
               have H:GZ P t u e bj.size bj.bytes k mv:=⟨yT,Jn,fun w=>kH cI w,fun w=>F2 cI w,wF,by rw [py];exact ao.2,ao.1.1,ao.1.2⟩;unfold G8 at he
               split at he
               case h_2=>cases he
               rename_i dB m
               split at he
               case h_2=>cases he
               rename_i n;obtain ⟨ql,bB⟩:=jV he;simp only [anu,anS] at ql;have ay:=sn ql.1;subst ay;simp only [Rel] at bc;subst bc;have Jf:=zu Ju n;have hlen:(jr z.cells n).length=n * bj.size:=by rw [<-Jf.length];simp [Builtin.zeroCells,py,ao.2]
               exact Wz s ao.1.1 Jf hlen (by have:=ql.2;unfold top;omega) (fun w' A dt gg a b c=>aj1 H ql.2 a b c) (fun A dt gg cJ a b c d f=>aj2 H ql.2 A dt gg cJ a b c d f) bB ar
       | _=>rw [b3] at he;cases he
     | _=>rw [yS] at he;exact main (by rw [yS];simp) he
theorem ZJ {aB:Fr} {E:Env} {h ab:ah} {w:World} (s:bd aB E h w) {t:TypeId} {rest:List TypeId} {x y v:V} {X Y:Value} {ty:TypeId}
 (he:(DO P t).run x y h=.val v ab) (ar:Rel E x X) (bc:Rel E y Y):dH aB P E w (Builtin.copy_ (t::rest).toArray ty #[X,Y]) v ab:=by
 unfold DO at he;cases aE:bg P t with
 | none=>rw [aE] at he;cases he
 | some aO=>
   rw [aE] at he;simp only at he;cases b3:aO.bl with
   | slice e=>
     rw [b3] at he;simp only at he;cases cI:bg P e with
     | none=>rw [cI] at he;cases he
     | some bj=>
       rw [cI] at he;simp only at he;exact ZK s (fun w=>by have:=gf aE w;rw [b3] at this;exact this) (fun w=>kH cI w) he ar bc
   | _=>rw [b3] at he;cases he
theorem Zr {aB:Fr} {E:Env} {h ab:ah} {w:World} (s:bd aB E h w) {t:TypeId} {x v:V} {X:Value} {ty:TypeId} {z:List V} (ao:AO P t=some z)
 (he:DM z x h=.val v ab) (ar:Rel E x X):dH aB P E w (Builtin.clear_ #[t] ty #[X]) v ab:=by
 unfold AO at ao;cases aE:bg P t with
 | none=>rw [aE] at ao;cases ao
 | some aO=>
   rw [aE] at ao;simp only at ao;cases b3:aO.bl with
   | slice e=>
     rw [b3] at ao;simp only at ao;cases cI:bg P e with
     | none=>rw [cI] at ao;cases ao
     | some bj=>
       rw [cI] at ao;simp only at ao;cases bJ:bj.zero with
       | none=>rw [bJ] at ao;cases ao
       | some z0=>
         rw [bJ] at ao;simp only [ant] at ao;subst ao;have hu:∀w,(underlying t).run P w=.ok (.slice e) w:=fun w=>by have:=gf aE w;rw [b3] at this;exact this
         obtain ⟨z,nz,Ju,Rr⟩:=tj (P:=P) (E:=E) cI bJ w;have nothing:∀a c,X=.slice a 0 c->v=.tuple []->ab=h->dH aB P E w (Builtin.clear_ #[t] ty #[X]) v ab:=by
          intro a c dO bB bp;subst dO bB bp;refine ⟨.tuple #[],w,E,?_,Env.le.refl E,?_,s⟩
          . cases a<;>simp [Builtin.clear_,Sem.run_bind,hu,Result.andThen_ok,Sem.run_pure]
          . simp only [Rel];exact ⟨_,rfl,rfl⟩
         have UF:∀(b:aU) (off n c:Nat) (p:jb),E b=some p->X=.slice (some ⟨p.bh,p.base+off,none⟩) n c->(bif Nat.beq n 0 then (a8.val (.tuple []) h) else (match lay h b off (jr z0.cells n) with
          | some ab=>a8.val (.tuple []) ab
          | none=>.fail))=.val v ab->dH aB P E w (Builtin.clear_ #[t] ty #[X]) v ab:=by
          intro b off n c p ak dO he;cases n with
          | zero=>
            simp only [apN,anC,a8.val.injEq] at he;exact nothing _ _ dO he.1.symm he.2.symm
          | succ n=>
            simp only [show Nat.beq (n+1) 0=false from rfl,anN] at he;cases aw:lay h b off (jr z0.cells (n+1)) with
            | none=>rw [aw] at he;cases he
            | some J=>
              rw [aw] at he;simp only [a8.val.injEq] at he;obtain ⟨rfl,rfl⟩:=he;obtain ⟨w',g1,g2⟩:=y_ (P:=P) s (zu Ju (n+1)) aw ak;subst dO;refine ⟨.tuple #[],w',E,?_,Env.le.refl E,?_,g2⟩
              . simp only [Builtin.clear_,Sem.run_bind,List.getElem?_toArray,anR,hu,nz,Result.andThen_ok];have:(storeCells ⟨p.bh,p.base+off,none⟩ (Builtin.zeroCells z.cells (n+1)).toList).run P w=.ok () w':=g1;simp [this,Sem.run_pure,Result.andThen_ok]
              . simp only [Rel];exact ⟨_,rfl,rfl⟩
         unfold DM at he;cases x<;>simp only at he<;>try (cases he;done)
         . simp only [Rel] at ar;obtain ⟨p,g1,g2,g3⟩:=ar;exact UF _ _ _ _ p g1 g3 he
         . simp only [Rel] at ar;obtain ⟨p,g1,g2,g3⟩:=ar;exact UF _ _ _ _ p g1 g3 he
         . simp only [Rel] at ar;obtain ⟨a,c,rfl⟩:=ar;simp only [a8.val.injEq] at he;exact nothing _ _ rfl he.1.symm he.2.symm
         . simp only [Rel] at ar;simp only [a8.val.injEq] at he;exact nothing _ _ ar he.1.symm he.2.symm
   | _=>rw [b3] at ao;cases ao
theorem Y6 {E:Env} {t:TypeId} {aO:oL} {x v:V} {X:Value} {ty:TypeId} (aE:bg P t=some aO) (aL:BN aO.bl=true) (he:AN x=some v) (ar:Rel E x X) (w:World):
 ∃Z,(Builtin.cap_ #[t] ty #[X]).run P w=.ok Z w/\Rel E v Z:=by
 cases b3:aO.bl with
 | slice e=>
   have hu:∀w,(underlying t).run P w=.ok (.slice e) w:=fun w=>by have:=gf aE w;rw [b3] at this;exact this
   cases x<;>simp only [AN] at he<;>try (cases he;done)
   . simp only [Rel] at ar;obtain ⟨p,_,_,rfl⟩:=ar;cases he;refine ⟨_,?_,rfl⟩;simp [Builtin.cap_,Sem.run_bind,hu,Result.andThen_ok,Sem.run_pure];rfl
   . simp only [Rel] at ar;subst ar;cases he;refine ⟨_,?_,rfl⟩;simp [Builtin.cap_,Sem.run_bind,hu,Result.andThen_ok,Sem.run_pure];rfl
 | _=>rw [b3] at aL;cases aL
theorem CO {α:Type} (a:Array α):a.toList.toArray=a:=by simp
theorem Xg {aB:Fr} {E:Env} {h ab:ah} {w:World} (s:bd aB E h w) {b:Builtin} {c2:Array TypeId} {args:List V} {xs:List Value} {v:V} {ty:TypeId} {cs:Array Bool} (aw:bm E args xs)
 (he:(q9 P b c2.toList).run args h=.val v ab):∃m:Sem Value,Go.builtin b c2 ty cs xs.toArray=(do pure (.value (<-m)))/\dH aB P E w m v ab:=by
 have one:∀{x:V},bm E [x] xs->∃X,xs=[X]/\Rel E x X:=by intro x h;simp only [bm] at h;obtain ⟨y,cT,rfl,bc,rfl⟩:=h;exact ⟨y,rfl,bc⟩
 have two:∀{x y:V},bm E [x,y] xs->∃X Y,xs=[X,Y]/\Rel E x X/\Rel E y Y:=by intro x y h;simp only [bm] at h;obtain ⟨X,_,rfl,dO,Y,_,rfl,ga,rfl⟩:=h;exact ⟨X,Y,rfl,dO,ga⟩
 cases b<;>simp only [q9] at he<;>try (simp [gM.none] at he;done)
 . -- append
   cases gb:c2.toList with
   | nil=>rw [gb] at he;simp [gM.none] at he
   | cons t tf=>
     rw [gb] at he;cases tf with
     | nil=>simp [gM.none] at he
     | cons u ak8=>
       cases ak8 with
       | cons _ _=>simp [gM.none] at he
       | nil=>
         simp only at he
         match args,he,aw with
         | [x,y],he,aw=>
           obtain ⟨X,Y,rfl,dO,ga⟩:=two aw;have e:c2=#[t,u]:=by rw [<-CO c2,gb]
           exact ⟨_,rfl,by rw [e];exact Ww s he dO ga⟩
         | [],he,_=>cases he
         | [_],he,_=>cases he
         | _::_::_::_,he,_=>cases he
 . -- cap
   cases gb:c2.toList with
   | nil=>rw [gb] at he;simp [gM.none] at he
   | cons t tf=>
     rw [gb] at he;cases tf with
     | cons _ _=>simp [gM.none] at he
     | nil=>
       simp only at he;cases aE:bg P t with
       | none=>rw [aE] at he;simp [gM.none] at he
       | some aO=>
         rw [aE] at he;simp only at he;cases aL:BN aO.bl with
         | false=>rw [aL] at he;simp [gM.none] at he
         | true=>
           rw [aL] at he;simp only [anC] at he
           match args,he,aw with
           | [x],he,aw=>
             obtain ⟨X,rfl,dO⟩:=one aw;have e:c2=#[t]:=by rw [<-CO c2,gb]
             obtain ⟨e5,rfl⟩:=a8.jn he;obtain ⟨Z,cS,cV⟩:=Y6 (P:=P) (ty:=ty) aE aL e5 dO w;exact ⟨_,rfl,by rw [e];exact dH.plain s cS cV⟩
           | [],he,_=>cases he
           | _::_::_,he,_=>cases he
 . -- clear
   cases gb:c2.toList with
   | nil=>rw [gb] at he;simp [gM.none] at he
   | cons t tf=>
     rw [gb] at he;cases tf with
     | cons _ _=>simp [gM.none] at he
     | nil=>
       simp only at he;cases ao:AO P t with
       | none=>rw [ao] at he;simp [gM.none] at he
       | some z=>
         rw [ao] at he;simp only at he
         match args,he,aw with
         | [x],he,aw=>
           obtain ⟨X,rfl,dO⟩:=one aw;have e:c2=#[t]:=by rw [<-CO c2,gb]
           exact ⟨_,rfl,by rw [e];exact Zr s ao he dO⟩
         | [],he,_=>cases he
         | _::_::_,he,_=>cases he
 . -- copy
   cases gb:c2.toList with
   | nil=>rw [gb] at he;simp [gM.none] at he
   | cons t tf=>
     rw [gb] at he;simp only at he
     match args,he,aw with
     | [x,y],he,aw=>
       obtain ⟨X,Y,rfl,dO,ga⟩:=two aw;have e:c2=(t::tf).toArray:=by rw [<-CO c2,gb]
       exact ⟨_,rfl,by rw [e];exact ZJ s he dO ga⟩
     | [],he,_=>cases he
     | [_],he,_=>cases he
     | _::_::_::_,he,_=>cases he
 . -- len
   cases gb:c2.toList with
   | nil=>rw [gb] at he;simp [gM.none] at he
   | cons t tf=>
     rw [gb] at he;cases tf with
     | cons _ _=>simp [gM.none] at he
     | nil=>
       simp only at he;cases aE:bg P t with
       | none=>rw [aE] at he;simp [gM.none] at he
       | some aO=>
         rw [aE] at he;simp only at he
         match args,he,aw with
         | [x],he,aw=>
           obtain ⟨X,rfl,dO⟩:=one aw;have e:c2=[t].toArray:=by rw [<-CO c2,gb]
           cases hm:uf aO.bl with
           | true=>
             rw [hm] at he;exact ⟨_,rfl,by rw [e];exact agZ s aE hm dO ty [] he⟩
           | false=>
             rw [hm] at he;simp only [anN] at he;obtain ⟨e5,rfl⟩:=a8.jn he;obtain ⟨Z,cS,cV⟩:=ag0 (P:=P) aE e5 dO ty [] w;exact ⟨_,rfl,by rw [e];exact dH.plain s cS cV⟩
         | [],he,_=>cases hm:uf aO.bl<;>rw [hm] at he<;>cases he
         | _::_::_,he,_=>cases hm:uf aO.bl<;>rw [hm] at he<;>cases he
 . -- max
   obtain ⟨e5,rfl⟩:=a8.jn he;clear he;cases args with
   | nil=>cases e5
   | cons x args=>
     simp only [lF] at e5;obtain ⟨k,a,rfl,J⟩:=kE e5;simp only [bm] at aw;obtain ⟨X,cT,rfl,dO,aw⟩:=aw;have:=dO.jJ;subst this;obtain ⟨Z,cS,cV⟩:=KE (P:=P) false args cT k a v aw J w;exact ⟨_,rfl,dH.plain (Z:=Z) s (by simpa [Builtin.max_] using cS) cV⟩
 . -- min
   obtain ⟨e5,rfl⟩:=a8.jn he;clear he;cases args with
   | nil=>cases e5
   | cons x args=>
     simp only [lF] at e5;obtain ⟨k,a,rfl,J⟩:=kE e5;simp only [bm] at aw;obtain ⟨X,cT,rfl,dO,aw⟩:=aw;have:=dO.jJ;subst this;obtain ⟨Z,cS,cV⟩:=KE (P:=P) true args cT k a v aw J w;exact ⟨_,rfl,dH.plain (Z:=Z) s (by simpa [Builtin.min_] using cS) cV⟩
end
section
variable {P:Program}
def fa (P:Program):Prop:=∀(f:FuncId) (fn:Func),P.funcs[f]? =some fn->(fn.name == "runtime.NumGoroutine")=false
theorem s9 (aM:fa P) {f:FuncId} {fn:Func} (aA:P.funcs[f]? =some fn) (aj:fn.body.isSome=true) (args:Array Value) (w:World):(callFunc f args).run P w=.ok (.enter f args) w:=by
 have gr:fn.body.isNone=false:=by cases h:fn.body with | none=>rw [h] at aj;cases aj | some c=>rfl
 simp only [callFunc,Sem.run_bind,run_program,Result.andThen_ok,aA];rw [anE (by rw [aM f fn aA];simp)];simp [gr]
theorem J8 {α β:Type} (f:α->β) (a:Array α):a.map f=(a.toList.map f).toArray:=by apply apg;simp
theorem KC (ρ:Operand->Value) (bE:Array (Nat × Operand)):(bE.map fun (i,x)=>(i,ρ x))=(bE.toList.map fun (i,x)=>(i,ρ x)).toArray:=by apply apg;simp
theorem WN {E:Env} {t u2:TypeId} {aO:oL} {ok:Bool} {x v:V} {X:Value} (aE:bg P t=some aO) (aj:Nat.beq (fG aO.bl) 5=false) (ar:Rel E x X)
 (he:Ay t aO.zero ok x=some v) (w:World):∃Z,(Instr.typeAssert X u2 t ok).run P w=.ok Z w/\Rel E v Z:=by
 have hu:=gf aE w;have rz:∀ms,aO.bl≠.interface ms:=fun ms e=>by rw [e] at aj;simp [fG] at aj
 have zero:∀z,aO.zero=some z->∃x,(zeroValue t).run P w=.ok x w/\Rel E z x:=fun z bJ=>by obtain ⟨x,J,ad,_⟩:=zA (P:=P) aE bJ E w;exact ⟨x,J,ad⟩
 unfold Ay at he;cases x<;>simp only at he<;>try (cases he;done)
 case iface u y=>
  simp only [Rel] at ar;obtain ⟨Y,rfl,ga⟩:=ar;rw [h_] at he;by_cases yT:u=t
  . rw [anL yT] at he;simp only [ant] at he;subst yT;cases ok with
    | true=>
      simp only [anC] at he;subst he;refine ⟨.tuple #[Y,.bool true],?_,by simp only [Rel,bm];exact ⟨_,rfl,_,_,rfl,ga,_,_,rfl,rfl,rfl⟩⟩;simp only [Instr.typeAssert,Sem.run_bind,hu,Result.andThen_ok];cases b3:aO.bl<;>first
       | exact absurd b3 (rz _)
       | (simp only [an7];rfl)
    | false=>
      simp only [anN] at he;subst he;refine ⟨Y,?_,ga⟩;simp only [Instr.typeAssert,Sem.run_bind,hu,Result.andThen_ok];cases b3:aO.bl<;>first
       | exact absurd b3 (rz _)
       | (simp only [an7];rfl)
  . rw [anE yT] at he;cases ok with
    | false=>cases he
    | true=>
      simp only [anC] at he;cases bJ:aO.zero with
      | none=>rw [bJ] at he;cases he
      | some z=>
        rw [bJ] at he;simp only [ant] at he;subst he;obtain ⟨aS,da,z2⟩:=zero z bJ;refine ⟨.tuple #[aS,.bool false],?_,by simp only [Rel,bm];exact ⟨_,rfl,_,_,rfl,z2,_,_,rfl,rfl,rfl⟩⟩;simp only [Instr.typeAssert,Sem.run_bind,hu,Result.andThen_ok];cases b3:aO.bl<;>first
         | exact absurd b3 (rz _)
         | (simp only [anE yT,an7,Sem.run_bind,da,Result.andThen_ok];rfl)
 case nilIface=>
  simp only [Rel] at ar;subst ar;cases ok with
  | false=>cases he
  | true=>
    simp only [anC] at he;cases bJ:aO.zero with
    | none=>rw [bJ] at he;cases he
    | some z=>
      rw [bJ] at he;simp only [ant] at he;subst he;obtain ⟨aS,da,z2⟩:=zero z bJ;refine ⟨.tuple #[aS,.bool false],?_,by simp only [Rel,bm];exact ⟨_,rfl,_,_,rfl,z2,_,_,rfl,rfl,rfl⟩⟩;simp only [Instr.typeAssert,Sem.run_bind,hu,Result.andThen_ok];cases b3:aO.bl<;>first
       | exact absurd b3 (rz _)
       | (simp only [an7,Sem.run_bind,da,Result.andThen_ok];rfl)
def hI (P:Program) (call:eA):Prop:=∀f args h v ab,call f args h=.val v ab->True
theorem O6 {rd:Option Nat} {aB:Fr} {E:Env} {h ab:ah} {w:World} {call:eA} (aM:fa P) (db:hA P call) (eh:hI P call) {o:Oper} {az:Nat} {r:bO} {a:Act} {v:V}
 (he:(fW P o).run call r h=.val v ab) (k:RegRel0 E az r a) (s:bd aB E h w) {K:Act->World->Prop} {Q:Exit->Act->World->Prop}
 (dW:∀ax x w',E.le ax->Rel ax v x->bd aB ax ab w'->K (a.put o.dst x) w'):o.wpIn (cd rd) 0 P a w K Q:=by
 obtain ⟨dst,op,type,pos,after,guard⟩:=o;cases op<;>simp only [fW] at he<;>try (simp [dP.none] at he;done)
 case move x=>
  simp only [a8.val.injEq] at he;obtain ⟨rfl,rfl⟩:=he;exact gW (m:=pure (a.eval x)) rfl (dH.plain s rfl (eb k x)) dW
 case assign x=>
  simp only [a8.val.injEq] at he;obtain ⟨rfl,rfl⟩:=he;exact gW (m:=pure (a.eval x)) rfl (dH.plain s rfl (eb k x)) dW
 case pick c x y=>
  have ao:=eb k c;generalize (bZ c).run r=Lk at he ao;cases Lk<;>simp only at he<;>try (cases he;done)
  rename_i t;simp only [a8.val.injEq] at he;obtain ⟨rfl,rfl⟩:=he;simp only [Rel] at ao;refine gW (m:=do pure (if <-asBool (a.eval c) then a.eval x else a.eval y)) (by simp only [execOp,bind_assoc,pure_bind]) (dH.plain (Z:=if t then a.eval x else a.eval y) s ?_ ?_) dW
  . rw [ao];rfl
  . cases t
    . exact eb k y
    . exact eb k x
 case alloc t=>
  cases aE:bg P t with
  | none=>rw [aE] at he;simp [dP.none] at he
  | some aO=>
    rw [aE] at he;simp only at he;cases bJ:aO.zero with
    | none=>rw [bJ] at he;simp [dP.none] at he
    | some z=>
      rw [bJ] at he;simp only at he;cases aX:gU h z.cells with
      | none=>rw [aX] at he;cases he
      | some J=>
        rw [aX] at he;simp only [hF,a8.val.injEq] at he;obtain ⟨rfl,rfl⟩:=he;obtain ⟨x,ar,px,_⟩:=tj (P:=P) (E:=E) aE bJ w;obtain ⟨ax,g1,g2,g3,g4⟩:=Fb (P:=P) s px aX t;have H0:(newRow t x.cells).run P w=.ok ⟨w.heap.size,0,none⟩ {w with heap:=w.heap.push (.cells x.cells t)}:=by simpa using g3
        have H2:bd aB ax J {w with heap:=w.heap.push (.cells x.cells t)}:=by simpa using g4
        exact gW (m:=Instr.alloc t true (.tuple #[])) rfl ⟨.pointer (some ⟨w.heap.size,0,none⟩),_,ax,by simp only [Instr.alloc,Sem.run_bind,ar,Result.andThen_ok,newVar,H0,Sem.run_pure],g1,by simp only [Rel];exact ⟨_,g2,by simp⟩,H2⟩ dW
 case box t x=>
  obtain ⟨an,he⟩:=jV he;cases aX:gU h ((bZ x).run r).cells with
  | none=>rw [aX] at he;cases he
  | some J=>
    rw [aX] at he;simp only [hF,a8.val.injEq] at he;obtain ⟨rfl,rfl⟩:=he;have aw:=(eb k x).cells (fun e=>by rw [e] at an;cases an);obtain ⟨ax,g1,g2,g3,g4⟩:=Fb (P:=P) s aw aX t;have H0:(newRow t (a.eval x).cells).run P w=.ok ⟨w.heap.size,0,none⟩ {w with heap:=w.heap.push (.cells (a.eval x).cells t)}:=by simpa using g3
    have H2:bd aB ax J {w with heap:=w.heap.push (.cells (a.eval x).cells t)}:=by simpa using g4
    exact gW (m:=Instr.box t (a.eval x)) rfl ⟨.pointer (some ⟨w.heap.size,0,none⟩),_,ax,by simp only [Instr.box,Sem.run_bind,newVar,H0,Result.andThen_ok,Sem.run_pure],g1,by simp only [Rel];exact ⟨_,g2,by simp⟩,H2⟩ dW
 case build t bE=>
  obtain ⟨e5,rfl⟩:=a8.jn he;clear he;obtain ⟨Z,cS,cV⟩:=Xc (P:=P) (Fv k bE.toList) e5 w;refine gW (m:=Instr.build t (bE.map fun (i,x)=>(i,a.eval x))) rfl (dH.plain (Z:=Z) s ?_ cV) dW;rw [KC];exact cS
 case buildSlice t n bE=>
  refine gW (m:=Instr.buildSlice t n (bE.map fun (i,x)=>(i,a.eval x))) rfl ?_ dW;rw [KC];exact Xe s (Fv k bE.toList) he
 case load t x=>
  obtain ⟨e5,rfl⟩:=a8.jn he;clear he;obtain ⟨Y,ga,cV,_⟩:=Sv (P:=P) s (eb k x) e5;exact gW (m:=Instr.loadAt t (a.eval x)) rfl (dH.plain s ga cV) dW
 case store t x y=>
  cases c8:(ta P t).run h ((bZ x).run r) ((bZ y).run r) with
  | none=>rw [c8] at he;cases he
  | some J=>
    rw [c8] at he;simp only [hF,a8.val.injEq] at he;obtain ⟨rfl,rfl⟩:=he;obtain ⟨w',dh,kg⟩:=akA (P:=P) s (eb k x) (eb k y) c8;refine ⟨fun _ _=>trivial,?_⟩;rw [qQ (by intro c h;cases h)];have:execOp a.eval ⟨dst,.store t x y,type,pos,after,guard⟩=(do Instr.storeAt t (a.eval x) (a.eval y);pure .skip):=rfl;rw [this,Sem.run_bind,dh];exact dW E undef w' (Env.le.refl E) (by simp [Rel]) kg
 case nilCheck x=>
  obtain ⟨e5,rfl⟩:=a8.jn he;clear he;have ar:=eb k x;generalize (bZ x).run r=xn at e5 ar
  have fr:∀X,Rel E xn X->(match X with
   | .pointer none | .nilIface | .nilFunc=>(runtimePanic .nilDeref:Sem Next)
   | .func (.method name) first captured=>
     match (first[0]? :Option Value) with
     | some .nilIface=>runtimePanic .nilDeref
     | some (.iface t w)=>do
       if (<-nilAhead ((<-program).types.size+Made.depth) t w name) != some false then
        unsupported (.noEntry "op/nilCheck.the method's receiver behind this interface value is a nil pointer, or cannot be seen to be none, and the arguments act or may panic (ledger 612)")
       pure (.value (.func (.method name) first captured))
     | _=>pure (.value (.func (.method name) first captured))
   | x=>pure (.value x))=pure (.value X)/\v=xn:=by
   intro X dO;cases xn<;>simp only [uD] at e5<;>try (cases e5;done)
   all_goals simp only [ant] at e5
   all_goals simp only [Rel] at dO
   . obtain ⟨p,_,rfl⟩:=dO;exact ⟨rfl,e5.symm⟩
   . rcases dO with ⟨_,_,rfl,_⟩ | ⟨_,_,_,_,_,rfl⟩<;>exact ⟨rfl,e5.symm⟩
   . obtain ⟨p,rfl,_⟩:=dO;exact ⟨rfl,e5.symm⟩
   . obtain ⟨_,p,rfl,_⟩:=dO;exact ⟨rfl,e5.symm⟩
  obtain ⟨J,rfl⟩:=fr _ ar;exact gW (m:=pure (a.eval x)) (by simp only [execOp];rw [pure_bind];exact J) (dH.plain s rfl ar) dW
 case binOp op t x y u=>
  obtain ⟨e5,rfl⟩:=a8.jn he;clear he;obtain ⟨Z,cS,cV⟩:=W7 (P:=P) (j1:=x) (ir:=y) e5 (eb k x) (eb k y) w;exact gW rfl (dH.plain s cS cV) dW
 case unOp op t x=>
  obtain ⟨e5,rfl⟩:=a8.jn he;clear he;obtain ⟨Z,cS,cV⟩:=ali (P:=P) e5 (eb k x) w;exact gW (m:=Op.unary op (a.eval x)) rfl (dH.plain s cS cV) dW
 case convert t u x=>exact gW (m:=convert t u (a.eval x)) rfl (ZG s he (eb k x)) dW
 case makeInterface t x=>
  cases aE:bg P t with
  | none=>rw [aE] at he;simp [dP.none] at he
  | some aO=>
    rw [aE] at he;simp only at he;cases aj:Nat.beq (fG aO.bl) 5 with
    | true=>rw [aj] at he;simp [dP.none] at he
    | false=>
      rw [aj] at he;simp only [anN,a8.val.injEq] at he;obtain ⟨rfl,rfl⟩:=he;refine gW (m:=Instr.makeInterface t (a.eval x)) rfl (dH.plain (Z:=.iface t (a.eval x)) s ?_ ?_) dW
      . have hu:=gf aE w;simp only [Instr.makeInterface,Sem.run_bind,hu,Result.andThen_ok];cases b3:aO.bl<;>first
         | rfl
         | (rw [b3] at aj;simp [fG] at aj)
      . simp only [Rel];exact ⟨_,rfl,eb k x⟩
 case makeFunc fn first fe=>
  cases fn<;>simp only at he<;>try (simp [dP.none] at he;done)
  rename_i f;cases aA:(first.isEmpty&&!Nat.beq f dy) with
  | false=>
    rw [aA] at he;simp only [anN] at he;cases ke:(fe.isEmpty&&!Nat.beq f dy) with
    | false=>rw [ke] at he;simp [dP.none] at he
    | true=>
      rw [ke] at he;simp only [anC,a8.val.injEq] at he;obtain ⟨rfl,rfl⟩:=he;simp only [anu,aoB] at ke;have IJ:f≠dy:=fun e=>by rw [e] at ke;exact absurd ke.2 (by decide)
      have IH:fe=#[]:=by simpa using ke.1
      subst IH;refine gW (m:=Instr.makeFunc (.func f) (first.map a.eval) #[]) (by simp [execOp]) (dH.plain s rfl ?_) dW;simp only [Rel];exact ⟨IJ,_,rfl,by rw [J8];simpa using qh k first.toList⟩
  | true=>
    rw [aA] at he;simp only [anC,a8.val.injEq] at he;obtain ⟨rfl,rfl⟩:=he;simp only [anu,aoB] at aA;have IJ:f≠dy:=fun e=>by rw [e] at aA;exact absurd aA.2 (by decide)
    have IH:first=#[]:=by simpa using aA.1
    subst IH;refine gW (m:=Instr.makeFunc (.func f) #[] (fe.map a.eval)) (by simp [execOp]) (dH.plain s rfl ?_) dW;simp only [Rel];exact .inl ⟨IJ,_,rfl,by rw [J8];simpa using qh k fe.toList⟩
 case makeSlice t l c=>exact gW (m:=Instr.makeSlice t (a.eval l) (a.eval c)) rfl (ahu s (eb k l) (eb k c) he) dW
 case slice t x bQ au eZ=>
  obtain ⟨e5,rfl⟩:=a8.jn he;clear he;obtain ⟨Z,cS,cV⟩:=akq (P:=P) e5 (eb k x) (Ft k bQ) (Ft k au) (Ft k eZ) w;exact gW (m:=Instr.sliceAt t (a.eval x) (bQ.map a.eval) (au.map a.eval) (eZ.map a.eval)) rfl (dH.plain s cS cV) dW
 case fieldAddr t x i=>
  obtain ⟨e5,rfl⟩:=a8.jn he;clear he;obtain ⟨Z,cS,cV⟩:=aaG (P:=P) e5 (eb k x) w;exact gW (m:=Instr.fieldAt t (a.eval x) i) rfl (dH.plain s cS cV) dW
 case field t x i=>
  obtain ⟨e5,rfl⟩:=a8.jn he;clear he;obtain ⟨Z,cS,cV⟩:=aaH (P:=P) e5 (eb k x) w;exact gW (m:=Instr.field t (a.eval x) i) rfl (dH.plain s cS cV) dW
 case indexAddr t x i=>
  obtain ⟨e5,rfl⟩:=a8.jn he;clear he;obtain ⟨Z,cS,cV⟩:=adW (P:=P) e5 (eb k x) (eb k i) w;exact gW (m:=Instr.indexAt t (a.eval x) (a.eval i)) rfl (dH.plain s cS cV) dW
 case index t x i=>
  obtain ⟨e5,rfl⟩:=a8.jn he;clear he;obtain ⟨Z,cS,cV⟩:=adY (P:=P) e5 (eb k x) (eb k i) w;exact gW (m:=Instr.index t (a.eval x) (a.eval i)) rfl (dH.plain s cS cV) dW
 case range t x=>exact gW (m:=Instr.range t (a.eval x)) rfl (ajm s (eb k x) he) dW
 case next it yX=>
  cases yX with
  | true=>exact gW (m:=Instr.next (a.eval it) true type) rfl (ahS s (eb k it) he) dW
  | false=>exact gW (m:=Instr.next (a.eval it) false type) rfl (ahQ s (eb k it) he) dW
 case entry it=>exact gW (m:=Instr.entry (a.eval it)) rfl (aaj s (eb k it) he) dW
 case lookup t x y ok=>
  obtain ⟨e5,rfl⟩:=a8.jn he;clear he;obtain ⟨Z,cS,cV⟩:=ahn (P:=P) s (eb k x) (eb k y) e5;exact gW (m:=Instr.lookup t (a.eval x) (a.eval y) ok) rfl (dH.plain s cS cV) dW
 case mapEntry t m y=>exact gW (m:=Instr.mapEntry t (a.eval m) (a.eval y)) rfl (ahx s (eb k m) (eb k y) he) dW
 case entryStore t m st x=>
  cases c8:AW h ((bZ m).run r) ((bZ st).run r) ((bZ x).run r) with
  | none=>rw [c8] at he;cases he
  | some J=>
    rw [c8] at he;simp only [hF,a8.val.injEq] at he;obtain ⟨rfl,rfl⟩:=he;obtain ⟨w',dh,kg⟩:=aai (P:=P) (t:=t) s (eb k m) (eb k st) (eb k x) c8;refine ⟨fun _ _=>trivial,?_⟩;rw [qQ (by intro c h;cases h)];have:execOp a.eval ⟨dst,.entryStore t m st x,type,pos,after,guard⟩=(do Instr.entryStore t (a.eval m) (a.eval st) (a.eval x);pure .skip):=rfl;rw [this,Sem.run_bind,dh];exact dW E undef w' (Env.le.refl E) (by simp [Rel]) kg
 case mapUpdate t m y x=>
  cases c8:(pX P t).run h ((bZ m).run r) ((bZ y).run r) ((bZ x).run r) with
  | none=>rw [c8] at he;cases he
  | some J=>
    rw [c8] at he;simp only [hF,a8.val.injEq] at he;obtain ⟨rfl,rfl⟩:=he;obtain ⟨w',dh,kg⟩:=U_ (P:=P) s (eb k m) (eb k y) (eb k x) c8;refine ⟨fun _ _=>trivial,?_⟩;rw [qQ (by intro c h;cases h)];have:execOp a.eval ⟨dst,.mapUpdate t m y x,type,pos,after,guard⟩=(do Instr.mapUpdate t (a.eval m) (a.eval y) (a.eval x);pure .skip):=rfl;rw [this,Sem.run_bind,dh];exact dW E undef w' (Env.le.refl E) (by simp [Rel]) kg
 case insert t m y x=>
  cases c8:(pX P t).run h ((bZ m).run r) ((bZ y).run r) ((bZ x).run r) with
  | none=>rw [c8] at he;cases he
  | some J=>
    rw [c8] at he;simp only [hF,a8.val.injEq] at he;obtain ⟨rfl,rfl⟩:=he;obtain ⟨w',dh,kg⟩:=U_ (P:=P) s (eb k m) (eb k y) (eb k x) c8;refine ⟨fun _ _=>trivial,?_⟩;rw [qQ (by intro c h;cases h)];have:execOp a.eval ⟨dst,.insert t m y x,type,pos,after,guard⟩=(do Instr.mapUpdate t (a.eval m) (a.eval y) (a.eval x);pure .skip):=rfl;rw [this,Sem.run_bind,dh];exact dW E undef w' (Env.le.refl E) (by simp [Rel]) kg
 case makeMap t x=>exact gW (m:=Instr.makeMap t (x.map a.eval)) rfl (aht s (Ft k x) he) dW
 case panic x=>
  exfalso;unfold KB at he
  split at he<;>cases he
 case typeAssert x u2 t ok=>
  cases aE:bg P t with
  | none=>rw [aE] at he;simp [dP.none] at he
  | some aO=>
    rw [aE] at he;simp only at he;cases aj:Nat.beq (fG aO.bl) 5 with
    | true=>rw [aj] at he;simp [dP.none] at he
    | false=>
      rw [aj] at he;simp only [anN] at he;obtain ⟨e5,rfl⟩:=a8.jn he;clear he;obtain ⟨Z,cS,cV⟩:=WN aE aj (u2:=u2) (eb k x) e5 w;exact gW (m:=Instr.typeAssert (a.eval x) u2 t ok) rfl (dH.plain s cS cV) dW
 case extract x i=>
  have ar:=eb k x;generalize (bZ x).run r=xn at he ar;cases xn<;>simp only at he<;>try (cases he;done)
  obtain ⟨e5,rfl⟩:=a8.jn he;clear he;simp only [Rel] at ar;obtain ⟨arr,dO,aw⟩:=ar;obtain ⟨y,bc,cV⟩:=aw.get i v e5;refine gW (m:=Instr.extract (a.eval x) i) rfl (dH.plain (Z:=y) s ?_ cV) dW;rw [dO];have:arr[i]? =some y:=by simpa using bc
  simp only [Instr.extract,this,Sem.run_pure]
 case call c=>
  obtain ⟨callee,args,types⟩:=c;cases callee with
  | invoke _ _=>simp [si,dP.none] at he
  | builtin b=>
    simp only [si] at he;obtain ⟨cs,hc⟩:∃cs,execOp a.eval ⟨dst,.call ⟨.builtin b,args,types⟩,type,pos,after,guard⟩=Go.builtin b types type cs (args.map a.eval):=by simp only [execOp,resolve,pure_bind,invoke];exact ⟨_,rfl⟩
    obtain ⟨m,hm,an⟩:=Xg (P:=P) (ty:=type) (cs:=cs) s (qh k args.toList) he;refine gW (m:=m) ?_ an dW;rw [hc,<-hm,J8]
  | value f=>
    simp only [si] at he;have aA:=eb k f;generalize adC:(bZ f).run r=xl at he aA;cases xl<;>simp only [V.zn] at he<;>try (cases he;done)
    rotate_left
    . rename_i g cs;simp only [Rel] at aA;refine ⟨fun _ _=>trivial,?_⟩;rw [qQ (by intro c h;cases h)];obtain ⟨an,first,dO,aw⟩:=aA;have qk:=bm.append aw (qh k args.toList);have ql:=db.fn _ _ _ _ _ _ an he E w _ qk s;have hex:execOp a.eval ⟨dst,.call ⟨.value f,args,types⟩,type,pos,after,guard⟩=callFunc g (first++args.map a.eval):=by
       simp only [execOp,resolve,dO,Deferred.ofValue,pure_bind,invoke];simp
      have e:first++args.map a.eval=(first.toList++args.toList.map a.eval).toArray:=by apply apg;simp
      rw [hex,e];rcases ql with ⟨⟨fn,ig,aj⟩,ao⟩ | ⟨ax,x,w',aK,ag,av,aJ⟩
      case inr=>
       rw [aK];exact dW ax x w' ag av aJ
      rw [s9 aM ig aj];refine ⟨fun h=>by simp at h,sl.2 (ao.mono fun e w' aq=>?_)⟩;obtain ⟨ax,x,rfl,ag,av,aJ⟩:=aq;exact dW ax x w' ag av aJ
    rename_i g cs;simp only [Rel] at aA;refine ⟨fun _ _=>trivial,?_⟩;rw [qQ (by intro c h;cases h)];rcases aA with ⟨an,fe,dO,aw⟩ | ⟨an,b,p,hc,ak,dO⟩
    . have qk:=(qh k args.toList).append aw;have ql:=db.fn _ _ _ _ _ _ an he E w _ qk s;have hex:execOp a.eval ⟨dst,.call ⟨.value f,args,types⟩,type,pos,after,guard⟩=callFunc g (args.map a.eval++fe):=by
       simp only [execOp,resolve,dO,Deferred.ofValue,pure_bind,invoke];simp
      have e:args.map a.eval++fe=(args.toList.map a.eval++fe.toList).toArray:=by apply apg;simp
      rw [hex,e];rcases ql with ⟨⟨fn,ig,aj⟩,ao⟩ | ⟨ax,x,w',aK,ag,av,aJ⟩
      case inr=>
       rw [aK];exact dW ax x w' ag av aJ
      rw [s9 aM ig aj];refine ⟨fun h=>by simp at h,sl.2 (ao.mono fun e w' aq=>?_)⟩;obtain ⟨ax,x,rfl,ag,av,aJ⟩:=aq;exact dW ax x w' ag av aJ
    . subst an hc;obtain ⟨HU,tmps,assign,body,ag,av⟩:=db.Vv _ _ _ _ _ _ he E w _ p (qh k args.toList) s ak;have hex:execOp a.eval ⟨dst,.call ⟨.value f,args,types⟩,type,pos,after,guard⟩=Instr.yield p.bh (args.map a.eval):=by
       simp only [execOp,resolve,dO,Deferred.ofValue,pure_bind,invoke];simp
      have e:args.map a.eval=(args.toList.map a.eval).toArray:=by apply apg;simp
      rw [hex,e,ag];refine ⟨fun h=>by simp at h,RoundIn.mono av fun e w' aq=>?_⟩;obtain ⟨ax,x,rfl,bM,dw,bY⟩:=aq;exact dW ax x w' bM dw bY
end
section
variable {P:Program}
theorem H9 {E:Env} {az:Nat} {r:bO} {a:Act} (k:RegRel0 E az r a) {all:Array Oper} {j:Nat} {g:Oper} {d:Nat} (bI:all[j]? =some g) (aZ:g.dst=some d) (acd:d<az) (vZ:d<=top):
 (∀b,T.get .bad (aD d) r=.bool b->yielded all a.tmps j=some b)/\(∀ai,T.get .bad (aD d) r=.tuple ai->yielded all a.tmps j=none):=by
 have aK:=k.af d vZ;have aH:d<a.tmps.size:=by rw [k.size];exact acd
 have he:a.tmps[d]? =some (a.tmps.getD d undef):=by simp [anY,aH]
 refine ⟨fun b aj=>?_,fun ai aj=>?_⟩
 . rw [aj] at aK;simp only [Rel] at aK;simp only [yielded,bI,Option.bind,aZ,he,aK]
 . rw [aj] at aK;simp only [Rel] at aK;obtain ⟨arr,aK,_⟩:=aK;simp only [yielded,bI,Option.bind,aZ,he,aK]
theorem O3 {rd:Option Nat} {aB:Fr} {E:Env} {h ab:ah} {w:World} {call:eA} (aM:fa P) (db:hA P call) {o:Oper} {az:Nat} {r:bO} {a:Act} {v:V} (hm:mR o.op=true)
 (he:(fW P o).run call r h=.c1 v ab) (k:RegRel0 E az r a) (s:bd aB E h w) {K:Act->World->Prop} {Q:Exit->Act->World->Prop}
 (dX:∀ax x w',E.le ax->Rel ax v x->bd aB ax ab w'->Q (.panic (qK x)) a w'):o.wpIn (cd rd) 0 P a w K Q:=by
 obtain ⟨dst,op,type,pos,after,guard⟩:=o;cases op<;>simp only [mR] at hm<;>try (cases hm;done)
 all_goals simp only [fW] at he
 case panic x=>
  have ar:=eb k x;generalize (bZ x).run r=xn at he ar;unfold KB at he;cases xn<;>simp only at he<;>try (cases he;done)
  simp only [a8.c1.injEq] at he;obtain ⟨rfl,rfl⟩:=he;have qC:=ar;simp only [Rel] at ar;obtain ⟨Y,dO,ga⟩:=ar;refine ⟨fun _ _=>trivial,?_⟩;rw [qQ (by intro c h;cases h)];have hex:(execOp a.eval ⟨dst,.panic x,type,pos,after,guard⟩).run P w=.halt (.panic (a.eval x)) w:=by simp only [execOp,dO,Instr.panic,Sem.run_bind];rfl
  rw [hex];exact dX E _ w (Env.le.refl E) qC s
 case call c=>
  obtain ⟨callee,args,types⟩:=c;cases callee<;>simp only at hm<;>try (cases hm;done)
  rename_i f;simp only [si] at he;have aA:=eb k f;generalize adC:(bZ f).run r=xl at he aA;cases xl<;>simp only [V.zn] at he<;>try (cases he;done)
  rotate_left
  . rename_i g cs;simp only [Rel] at aA;refine ⟨fun _ _=>trivial,?_⟩;rw [qQ (by intro c h;cases h)];obtain ⟨an,first,dO,aw⟩:=aA;have qk:=bm.append aw (qh k args.toList);obtain ⟨⟨fn,ig,aj⟩,ao⟩:=db.c1 _ _ _ _ _ _ an he E w _ qk s;have hex:execOp a.eval ⟨dst,.call ⟨.value f,args,types⟩,type,pos,after,guard⟩=callFunc g (first++args.map a.eval):=by
     simp only [execOp,resolve,dO,Deferred.ofValue,pure_bind,invoke];simp
    have e:first++args.map a.eval=(first.toList++args.toList.map a.eval).toArray:=by apply apg;simp
    rw [hex,e,s9 aM ig aj];refine ⟨fun h=>by simp at h,sl.2 (ao.mono fun e w' aq=>?_)⟩;obtain ⟨ax,x,rfl,ag,av,aJ⟩:=aq;exact dX ax x w' ag av aJ
  rename_i g cs;simp only [Rel] at aA;refine ⟨fun _ _=>trivial,?_⟩;rw [qQ (by intro c h;cases h)];rcases aA with ⟨an,fe,dO,aw⟩ | ⟨an,b,p,hc,ak,dO⟩
  . have qk:=(qh k args.toList).append aw;obtain ⟨⟨fn,ig,aj⟩,ao⟩:=db.c1 _ _ _ _ _ _ an he E w _ qk s;have hex:execOp a.eval ⟨dst,.call ⟨.value f,args,types⟩,type,pos,after,guard⟩=callFunc g (args.map a.eval++fe):=by
     simp only [execOp,resolve,dO,Deferred.ofValue,pure_bind,invoke];simp
    have e:args.map a.eval++fe=(args.toList.map a.eval++fe.toList).toArray:=by apply apg;simp
    rw [hex,e,s9 aM ig aj];refine ⟨fun h=>by simp at h,sl.2 (ao.mono fun e w' aq=>?_)⟩;obtain ⟨ax,x,rfl,ag,av,aJ⟩:=aq;exact dX ax x w' ag av aJ
  . subst an;exact absurd he (db.zV _ _ _ _)
def oJ (aB:Fr) (E:Env) (az:Nat) (K:Act->World->Prop) (Q:Exit->Act->World->Prop):o'->Prop
 | .ok r h=>∀ax bw w',E.le ax->fZ ax az r bw->bd aB ax h w'->K bw w'
 | .c1 v r h=>∀ax bw w' x,E.le ax->fZ ax az r bw->Rel ax v x->bd aB ax h w'->Q (.panic (qK x)) bw w'
 | .fail=>False
theorem oJ.up {aB:Fr} {E ax:Env} (h:E.le ax) {az:Nat} {K:Act->World->Prop} {Q:Exit->Act->World->Prop} {x:o'} (k:oJ aB E az K Q x):oJ aB ax az K Q x:=by
 cases x with
 | ok r bp=>exact fun aI a w ad=>k aI a w (h.trans ad)
 | c1 v r bp=>exact fun aI a w x ad=>k aI a w x (h.trans ad)
 | fail=>exact k
theorem Th {rd:Option Nat} {aB:Fr} {E:Env} {h:ah} {w:World} {call:eA} (aM:fa P) (db:hA P call) (eh:hI P call) {all:Array Oper} {i:Nat} {o:Oper} (au:all[i]? =some o) {az:Nat} {r:bO} {a:Act}
 (aZ:fO az o.dst=true) (k:fZ E az r a) (s:bd aB E h w) {K:Act->World->Prop} {Q:Exit->Act->World->Prop} (hw:Region.wanted o (yielded all a.tmps)=true)
 (ak:oJ aB E az K Q (Fs (mR o.op) (fW P o) (gn o.dst) call r h)):wpOpIn (cd rd) 0 P all Q i K a w:=by
 simp only [wpOpIn,au,hw,an7];unfold Fs at ak;cases a1:(fW P o).run call r h with
 | fail=>rw [a1] at ak;exact ak.elim
 | val v J=>
   rw [a1] at ak;exact O6 aM db eh a1 k.toRegRel0 s fun ax x w' ag av aJ=>ak ax _ w' ag ((k.mono ag).put aZ av) aJ
 | c1 v J=>
   rw [a1] at ak;simp only at ak;cases hm:mR o.op with
   | false=>rw [hm] at ak;exact ak.elim
   | true=>
     rw [hm] at ak;exact O3 aM db hm a1 k.toRegRel0 s fun ax x w' ag av aJ=>ak ax a w' x ag (k.mono ag) av aJ
theorem U' {rd:Option Nat} {aB:Fr} {E:Env} {h:ah} {w:World} {all:Array Oper} {i:Nat} {o:Oper} (au:all[i]? =some o) {az:Nat} {r:bO} {a:Act}
 (aZ:fO az o.dst=true) (k:fZ E az r a) (s:bd aB E h w) {K:Act->World->Prop} {Q:Exit->Act->World->Prop} (hw:Region.wanted o (yielded all a.tmps)=false)
 (ak:oJ aB E az K Q (.ok ((gn o.dst).run r (.tuple [])) h)):wpOpIn (cd rd) 0 P all Q i K a w:=by
 simp only [wpOpIn,au,hw,anV,an4];exact ⟨fun _ _=>trivial,ak E _ w (Env.le.refl E) (k.put aZ (by simp only [Rel];exact ⟨#[],rfl,rfl⟩)) s⟩
theorem Fq {rd:Option Nat} {aB:Fr} {E:Env} {h:ah} {w:World} {call:eA} (aM:fa P) (db:hA P call) (eh:hI P call) {all:Array Oper} {i:Nat} {o:Oper} (au:all[i]? =some o) {az:Nat} {r:bO} {a:Act}
 (aZ:fO az o.dst=true) (k:fZ E az r a) (s:bd aB E h w) {K:Act->World->Prop} {Q:Exit->Act->World->Prop}
 (ak:oJ aB E az K Q ((zp P az all o).run call r h)):wpOpIn (cd rd) 0 P all Q i K a w:=by
 unfold zp at ak;cases an:o.guard with
 | none=>
   rw [an] at ak;exact Th aM db eh au aZ k s (by simp [Region.wanted,an]) ak
 | some qD=>
   obtain ⟨j,want⟩:=qD;rw [an] at ak;simp only at ak;cases bI:all[j]? with
   | none=>rw [bI] at ak;exact ak.elim
   | some g=>
     rw [bI] at ak;simp only at ak;cases lj:g.dst with
     | none=>rw [lj] at ak;exact ak.elim
     | some d=>
       rw [lj] at ak;simp only at ak;cases ao:(Nat.blt d az&&Nat.ble d top) with
       | false=>rw [ao] at ak;exact ak.elim
       | true=>
         rw [ao] at ak;simp only [anC,Qj,pk] at ak;simp only [anu,aoa,anS] at ao;obtain ⟨g1,g2⟩:=H9 k.toRegRel0 bI lj ao.1 ao.2;cases bB:T.get .bad (aD d) r<;>rw [bB] at ak<;>simp only at ak<;>try (exact ak.elim)
         . rename_i b;have bc:=g1 b bB;cases aj:(bif want then b else !b) with
           | true=>
             rw [aj] at ak;simp only [anC] at ak;refine Th aM db eh au aZ k s ?_ ak;simp only [Region.wanted,an,bc];cases want<;>cases b<;>simp_all
           | false=>
             rw [aj] at ak;simp only [anN] at ak;refine U' au aZ k s ?_ ak;simp only [Region.wanted,an,bc];cases want<;>cases b<;>simp_all
         . rename_i ai;have bc:=g2 ai bB;refine U' au aZ k s ?_ ak;simp only [Region.wanted,an,bc];rfl
theorem lP.list {E:Env} {v:V} {ds:List Deferred} (k:lP E v ds):mw E v.list ds:=by
 cases v<;>first
  | exact k
theorem aiF {rd:Option Nat} {aB:Fr} {E:Env} {h:ah} {w:World} {call:eA} (aM:fa P) (db:hA P call) (eh:hI P call) {all:Array Oper} {i:Nat} {o:Oper} (au:all[i]? =some o) {az:Nat} {r:bO} {a:Act}
 (aK:rd=none\/Ch o=true) (k:fZ E az r a) (s:bd aB E h w) {K:Act->World->Prop} {Q:Exit->Act->World->Prop}
 (ak:oJ aB E az K Q ((Fp P az all o).run call r h)):wpOpIn (cd rd) 0 P all Q i K a w:=by
 unfold Fp at ak;cases aZ:fO az o.dst with
 | false=>rw [aZ] at ak;exact ak.elim
 | true=>
   rw [aZ] at ak;simp only [anC] at ak;obtain ⟨dst,op,type,pos,after,guard⟩:=o;cases op with
   | defer c=>
     rcases aK with rfl | aK
     case inr=>cases aK
     simp only at ak;cases guard with
     | some _=>exact ak.elim
     | none=>
       simp only at ak;obtain ⟨callee,args,types⟩:=c;simp only [Pe] at ak;cases callee<;>simp only at ak<;>try (exact ak.elim)
       rename_i f;unfold Pf at ak;have aA:=eb k.toRegRel0 f;generalize (bZ f).run r=xl at ak aA;cases xl<;>simp only at ak<;>try (exact ak.elim)
       rename_i g cs;cases bc:Nat.beq g dy with
       | true=>rw [bc] at ak;exact ak.elim
       | false=>
         rw [bc] at ak;simp only [anN] at ak;have sy:g≠dy:=fun e=>by rw [e] at bc;exact absurd bc (by decide)
         simp only [Rel] at aA;rcases aA with ⟨_,fe,dO,aw⟩ | ⟨an,_⟩
         case inr=>exact absurd an sy
         simp only [wpOpIn,au,Region.wanted,an7];refine ⟨fun _ _=>trivial,?_⟩;have hex:((Oper.mk dst (.defer ⟨.value f,args,types⟩) type pos after none).semAt (cd none).round a.eval).run P w=.ok (.defer {target:=.fn (.func g) fe,args:=#[]++args.map a.eval}) w:=by simp only [Oper.semAt_none,execOp,resolve,dO,Deferred.ofValue,pure_bind];rfl
         rw [hex];refine ak E _ w (Env.le.refl E) (fZ.put ?_ aZ (by simp only [Rel];exact ⟨#[],rfl,rfl⟩)) s;refine ⟨⟨k.size,fun t aE=>?_⟩,?_⟩
         rotate_left
         . rw [T.iN,anL rfl];simp only [lP,mw];refine ⟨_,_,rfl,⟨sy,fe,rfl,?_⟩,k.defers.list⟩;have:=(qh k.toRegRel0 args.toList).append aw;simpa using this
         . rw [T.iN,anE (fun e=>w3 aE e.symm)];exact k.af t aE
   | binOp op t x y u=>
     simp only at ak;cases guard with
     | some g=>exact Fq aM db eh au aZ k s ak
     | none=>
       simp only at ak;cases mJ:w7 P op t with
       | none=>rw [mJ] at ak;exact Fq aM db eh au aZ k s ak
       | some neg=>
         rw [mJ] at ak;simp only [TK] at ak;cases aq:ml h ((bZ x).run r) ((bZ y).run r) with
         | none=>rw [aq] at ak;exact Fq aM db eh au aZ k s ak
         | some b=>
           rw [aq] at ak;simp only [wpOpIn,au,Region.wanted,an7];obtain ⟨Z,cS,cV⟩:=TI (P:=P) (j1:=x) (ir:=y) s mJ aq (eb k.toRegRel0 x) (eb k.toRegRel0 y);exact gW rfl (dH.plain s cS cV) fun ax v w' ag av aJ=>ak ax _ w' ag ((k.mono ag).put aZ av) aJ
   | _=>exact Fq aM db eh au aZ k s ak
theorem Ti {rd:Option Nat} {aB:Fr} {call:eA} (aM:fa P) (db:hA P call) (eh:hI P call) {all:Array Oper} {az:Nat} {Q:Exit->Act->World->Prop}:∀(l:List Oper) (i:Nat),(∀j,l[j]? =all[i+j]?)->(rd=none\/∀o ∈ l,Ch o=true)->
 ∀(E:Env) (r:bO) (h:ah) (a:Act) (w:World),oJ aB E az (Q .normal) Q ((Cs P az all l).run call r h)->fZ E az r a->bd aB E h w->
 wpOpsIn (cd rd) 0 P all Q (List.range' i l.length) a w
 | [],i,_,_,E,r,h,a,w,ak,k,s=>by simp only [Cs] at ak;simp only [anH,List.range'_zero,wpOpsIn];exact ak E a w (Env.le.refl E) k s
 | o::os,i,aw,aK,E,r,h,a,w,ak,k,s=>by
   simp only [Cs,Uy] at ak;have au:all[i]? =some o:=by have:=aw 0;simpa using this.symm
   rw [anz,List.range'_succ,wpOpsIn_cons];refine aiF aM db eh au (aK.imp id fun h=>h o (by simp)) k s ?_;cases J:(Fp P az all o).run call r h with
   | fail=>rw [J] at ak;exact ak
   | c1 v bM v_=>rw [J] at ak;exact ak
   | ok bM v_=>
     rw [J] at ak;simp only at ak;intro ax bw w' ag av aJ;refine Ti aM db eh os (i+1) (fun j=>?_) (aK.imp id fun h cp ij=>h cp (by simp [ij])) ax bM v_ bw w' (ak.up ag) av aJ;have:=aw (j+1);simp only [aov] at this;rw [this];congr 1;omega
end
theorem PH {a b:V} (h:DY a b=true):a=b:=by
 cases a<;>cases b<;>simp only [DY] at h<;>first
  | rfl
  | (cases h;done)
  | (rename_i x y;cases x<;>cases y<;>simp_all;done)
  | (rename_i k x l y
     simp only [anu] at h;have J:=sn h.1;have ad:=h.2;rw [nk,ao5] at ad;rw [J,ad];done)
  | (rw [vs,ao5] at h;rw [h];done)
  | (simp only [anu,an6] at h
     obtain ⟨J,ad,aC,bn⟩:=h;rw [aU.nk J,ad,aC,bn];done)
  | (simp only [anu,an6] at h
     rw [aU.nk h.1,h.2];done)
  | (rw [aU.nk h];done)
  | (simp only [anu,an6,List.isEmpty_iff] at h
     obtain ⟨J,ad,aC⟩:=h;rw [J,ad,aC];done)
  | (simp only [anu,List.isEmpty_iff] at h
     rw [h.1,h.2];done)
theorem HQ {f:V->V->Bool} (aA:∀a b,f a b=true->a=b):∀{a b:List V},x6 f a b=true->a=b
 | [],[],_=>rfl
 | [],_::_,h=>by cases h
 | _::_,[],h=>by cases h
 | a::x,b::y,h=>by
   simp only [x6] at h;cases J:f a b with
   | false=>rw [J] at h;cases h
   | true=>
     rw [J] at h;rw [aA a b J,HQ aA h]
theorem W5 {c x:Bool} (h:(bif c then x else false)=true):c=true/\x=true:=by
 cases c with
 | false=>cases h
 | true=>exact ⟨rfl,h⟩
theorem PI:∀(d:Nat) (a b:V),vI d a b=true->a=b
 | 0,a,b,h=>PH h
 | d+1,a,b,h=>by
   have bC:=PI d;cases a<;>simp only [vI] at h<;>first
    | exact PH h
    | (cases b<;>simp only at h<;>first
        | (cases h;done)
        | rfl
        | (rw [HQ bC h];done)
        | (obtain ⟨J,ad⟩:=W5 h
           rw [an6] at J;rw [J]
           first
            | rw [HQ bC ad]
            | rw [bC _ _ ad]))
theorem HR {a b:V} (h:AZ a b=true):a=b:=PI 5 a b h
theorem AB (m i:Nat):gC m i=m.testBit i:=by
 rw [Nat.testBit_eq_decide_div_mod_eq];unfold gC;have e:Nat.mod (Nat.shiftRight m i) 2=m / 2 ^ i % 2:=by show (m >>> i) % 2=_;rw [Nat.shiftRight_eq_div_pow]
 rw [e,aon,an6,anM]
theorem J9 {eI:List Nat} {i:Nat}:∀{es:List Edge},gC (uz eI es) i=true->∃e ∈ es,vt e=true/\(e.on=i\/gC ((eI[e.on]?).getD 0) i=true)
 | [],h=>by simp [uz,AB] at h
 | e::es,h=>by
   simp only [uz] at h;cases aj:vt e with
   | false=>
     rw [aj] at h;obtain ⟨dL,J,ad⟩:=J9 (es:=es) h;exact ⟨dL,by simp [J],ad⟩
   | true=>
     rw [aj] at h;simp only [anC,AB] at h;have ab:((1 <<< e.on||| (eI[e.on]?).getD 0)||| uz eI es).testBit i=true:=h;rw [Nat.testBit_or,Nat.testBit_or,aoR,aoR] at ab;rcases ab with (J | J) | J
     . refine ⟨e,by simp,aj,.inl ?_⟩;rw [Nat.testBit_shiftLeft] at J;simp only [anu,anM] at J;have:=J.2;rw [Nat.testBit_one_eq_true_iff_self_eq_zero] at this;omega
     . exact ⟨e,by simp,aj,.inr (by rw [AB];exact J)⟩
     . rw [<-AB] at J;obtain ⟨dL,ag,av⟩:=J9 (es:=es) J;exact ⟨dL,by simp [ag],av⟩
def q2 (ops:Array Oper) (L:Nat->Prop):Prop:=∀k o e,L k->ops[k]? =some o->e ∈ o.after.toList->vt e=true->L e.on
theorem Cb {ops:Array Oper} {L:Nat->Prop} (A':q2 ops L):∀(os:List Oper) (eI:List Nat),(∀j,os[j]? =ops[eI.length+j]?)->
 (∀k m i,eI[k]? =some m->gC m i=true->L k->L i)->∀k m i,(fp eI os)[k]? =some m->gC m i=true->L k->L i
 | [],eI,_,h,k,m,i,ay,aj,cB=>h k m i ay aj cB
 | o::os,eI,pv,h,k,m,i,ay,aj,cB=>by
   simp only [fp] at ay;refine Cb A' os (eI++[uz eI o.after.toList]) (fun j=>?_) (fun k m i ay aj cB=>?_) k m i ay aj cB
   . have:=pv (j+1);simp only [aov] at this;rw [this];congr 1;simp;omega
   . by_cases aH:k<eI.length
     . rw [anX aH] at ay;exact h k m i ay aj cB
     . rw [anW (by omega)] at ay;have wc:k-eI.length=0:=by
        cases bJ:k-eI.length with
        | zero=>rfl
        | succ n=>rw [bJ] at ay;simp at ay
       rw [wc] at ay;simp only [anR,ant] at ay;subst ay;have Ew:k=eI.length:=by omega
       have a1:ops[k]? =some o:=by have:=pv 0;simp only [anR,ao7] at this;rw [Ew];exact this.symm
       obtain ⟨e,he,Is,iA⟩:=J9 aj;have Qo:=A' k o e cB a1 he Is;rcases iA with rfl | iA
       . exact Qo
       . cases hm:eI[e.on]? with
         | none=>rw [hm] at iA;simp [AB] at iA
         | some dD=>rw [hm] at iA;exact h e.on dD i hm iA Qo
theorem qZ {f:Nat->Nat->Oper->Bool}:∀{k:Nat} {ms:List Nat} {os:List Oper},oF f k ms os=true->∀j o,os[j]? =some o->∃m,ms[j]? =some m/\f (k+j) m o=true
 | _,_,[],_,j,o,h=>by simp at h
 | _,[],_::_,h,_,_,_=>by cases h
 | k,m::ms,cp::os,h,j,o,a1=>by
   simp only [oF,anu] at h;cases j with
   | zero=>simp only [anR,ant] at a1;subst a1;exact ⟨m,rfl,h.1⟩
   | succ j=>
     obtain ⟨dD,J,ad⟩:=qZ h.2 j o (by simpa using a1);exact ⟨dD,by simpa using J,by rw [show k + (j+1)=k+1+j from by omega];exact ad⟩
theorem Lx {f:Nat->Nat->Oper->Bool}:∀{k:Nat} {ms:List Nat} {os:List Oper},ms.length=os.length->(∀j m o,ms[j]? =some m->os[j]? =some o->f (k+j) m o=true)->oF f k ms os=true
 | _,[],[],_,_=>rfl
 | _,[],_::_,h,_=>by simp at h
 | _,_::_,[],h,_=>by simp at h
 | k,m::ms,o::os,h,aA=>by simp only [oF,anu];refine ⟨aA 0 m o rfl rfl,Lx (by simpa using h) fun j dD cp J ad=>?_⟩;have:=aA (j+1) dD cp (by simpa using J) (by simpa using ad);rw [show k+1+j=k + (j+1) from by omega];exact this
theorem J':∀(os:List Oper) (eI:List Nat),(fp eI os).length=eI.length+os.length
 | [],eI=>rfl
 | o::os,eI=>by simp [fp,J' os];omega
section
variable {P:Program}
theorem O5 {o:Oper} {call:eA} {r:bO} {h ab:ah} {v:V} (aq:fy P o.op=false) (he:(fW P o).run call r h=.val v ab):ab=h:=by
 obtain ⟨dst,op,type,pos,after,guard⟩:=o;cases op<;>simp only [fy] at aq<;>try (cases aq;done)
 all_goals simp only [fW] at he
 case convert s d x=>
  unfold q' at he;cases aL:bg P s with
  | none=>rw [aL] at he;cases he
  | some uU=>
    cases aZ:bg P d with
    | none=>rw [aZ] at aq;cases aq
    | some pf=>
      rw [aL,aZ] at he;rw [aZ] at aq;simp only at he aq;cases hu:pf.bl with
      | int k=>
        rw [hu] at he;obtain ⟨bu,n,_,J⟩:=s0 he;simp only [a8.val.injEq] at J;exact J.2.symm
      | slice e=>rw [hu] at aq;cases aq
      | string=>
        rw [hu] at he;simp only at he
        have other:∀x:V,(match x with
         | .str s=>a8.val (.str s) h
         | .int _ n=>.val (.str (Utf8.encode n).data.toList) h
         | _=>.fail)=.val v ab->ab=h:=by
         intro x he;cases x<;>simp only at he<;>first
          | (cases he;done)
          | (simp only [a8.val.injEq] at he;exact he.2.symm)
        cases Ri:uU.bl with
        | slice e=>
          rw [Ri] at he;simp only at he;cases cI:bg P e with
          | none=>rw [cI] at he;cases he
          | some bj=>
            rw [cI] at he;simp only at he;have akD:∀b off len,uW b off len h=.val v ab->ab=h:=by
             intro b off len he;unfold uW at he;cases an:h.get b<;>rw [an] at he<;>simp only [cn.pQ] at he<;>try (cases he;done)
             all_goals
              obtain ⟨_,ad⟩:=jV he;cases adw:o8 (ie _ off len)<;>rw [adw] at ad<;>first
               | (cases ad;done)
               | (simp only [a8.val.injEq] at ad;exact ad.2.symm)
            cases fm:bj.bl with
            | int BV=>
              rw [fm] at he;cases BV<;>simp only at he<;>try (cases he;done)
              simp only [tD] at he;cases ar:(bZ x).run r<;>rw [ar] at he<;>simp only at he<;>first
               | (cases he;done)
               | exact akD _ _ _ he
               | (simp only [a8.val.injEq] at he;exact he.2.symm)
            | _=>rw [fm] at he;cases he
        | _=>rw [Ri] at he;exact other _ he
      | _=>rw [hu] at he;cases he
 case call c=>
  obtain ⟨callee,args,types⟩:=c;cases callee<;>simp only at aq<;>try (cases aq;done)
  rename_i b;simp only [si] at he;cases b<;>simp only at aq<;>try (cases aq;done)
  . simp only [q9] at he;cases gb:types.toList with
    | nil=>rw [gb] at he;simp [gM.none] at he
    | cons t c2=>
      cases c2 with
      | cons _ _=>rw [gb] at he;simp [gM.none] at he
      | nil=>
        rw [gb] at he;simp only at he;cases aE:bg P t with
        | none=>rw [aE] at he;simp [gM.none] at he
        | some aO=>
          rw [aE] at he;rw [gb] at aq;simp only [JH,aE] at aq;simp only [aq,anN] at he
          split at he
          . exact (a8.jn he).2
          . cases he
  . exact (a8.jn he).2
  . exact (a8.jn he).2
 case move=>simp only [a8.val.injEq] at he;exact he.2.symm
 case assign=>simp only [a8.val.injEq] at he;exact he.2.symm
 case pick c a b=>
  split at he
  . simp only [a8.val.injEq] at he;exact he.2.symm
  . cases he
 case makeFunc fn first fe=>
  cases fn<;>simp only at he<;>try (simp [dP.none] at he;done)
  rename_i f;cases aA:(first.isEmpty&&!Nat.beq f dy)<;>rw [aA] at he
  . simp only [anN] at he;cases ke:(fe.isEmpty&&!Nat.beq f dy)<;>rw [ke] at he
    . simp [dP.none] at he
    . simp only [anC,a8.val.injEq] at he;exact he.2.symm
  . simp only [anC,a8.val.injEq] at he;exact he.2.symm
 case typeAssert x u2 t ok=>
  cases aE:bg P t with
  | none=>rw [aE] at he;simp [dP.none] at he
  | some aO=>
    rw [aE] at he;simp only at he;cases aj:Nat.beq (fG aO.bl) 5<;>rw [aj] at he
    . exact (a8.jn he).2
    . simp [dP.none] at he
 case makeInterface t x=>
  cases aE:bg P t with
  | none=>rw [aE] at he;simp [dP.none] at he
  | some aO=>
    rw [aE] at he;simp only at he;cases aj:Nat.beq (fG aO.bl) 5<;>rw [aj] at he
    . simp only [anN,a8.val.injEq] at he;exact he.2.symm
    . simp [dP.none] at he
 case extract x i=>
  split at he
  . exact (a8.jn he).2
  . cases he
 all_goals exact (a8.jn he).2
theorem a8.w1 {h ab:ah} {x:Option V} {v:V} (he:a8.of h x=.val v ab) (H:ah):a8.of H x=.val v H:=by rw [(a8.jn he).1];rfl
theorem O4 {o:Oper} {call:eA} {r:bO} {h ab:ah} {v:V} (aq:fy P o.op=false) (aw:looks o.op=false) (he:(fW P o).run call r h=.val v ab) (H:ah):(fW P o).run call r H=.val v H:=by
 obtain ⟨dst,op,type,pos,after,guard⟩:=o;cases op<;>simp only [fy] at aq<;>try (cases aq;done)
 all_goals simp only [looks] at aw<;>try (cases aw;done)
 all_goals simp only [fW] at he ⊢
 case call c=>
  obtain ⟨callee,args,types⟩:=c;cases callee<;>simp only at aq<;>try (cases aq;done)
  rename_i b;simp only [si] at he ⊢;cases b<;>simp only at aq<;>try (cases aq;done)
  . simp only [q9] at he ⊢;cases gb:types.toList with
    | nil=>rw [gb] at he;simp [gM.none] at he
    | cons t c2=>
      cases c2 with
      | cons _ _=>rw [gb] at he;simp [gM.none] at he
      | nil=>
        rw [gb] at he;simp only at he ⊢;cases aE:bg P t with
        | none=>rw [aE] at he;simp [gM.none] at he
        | some aO=>
          rw [aE] at he;rw [gb] at aq;simp only [JH,aE] at aq;simp only [aq,anN] at he ⊢
          split at he
          . exact a8.w1 he H
          . cases he
  . exact a8.w1 he H
  . exact a8.w1 he H
 case move=>simp only [a8.val.injEq] at he;rw [he.1]
 case assign=>simp only [a8.val.injEq] at he;rw [he.1]
 case pick c a b=>
  split at he
  . simp only [a8.val.injEq] at he;rw [he.1]
  . cases he
 case makeFunc fn first fe=>
  cases fn<;>simp only at he ⊢<;>try (simp [dP.none] at he;done)
  rename_i f;cases aA:(first.isEmpty&&!Nat.beq f dy)<;>rw [aA] at he
  . simp only [anN] at he ⊢;cases ke:(fe.isEmpty&&!Nat.beq f dy)<;>rw [ke] at he
    . simp [dP.none] at he
    . simp only [anC,a8.val.injEq] at he ⊢;exact ⟨he.1,trivial⟩
  . simp only [anC,a8.val.injEq] at he ⊢;exact ⟨he.1,trivial⟩
 case typeAssert x u2 t ok=>
  cases aE:bg P t with
  | none=>rw [aE] at he;simp [dP.none] at he
  | some aO=>
    rw [aE] at he;simp only at he ⊢;cases aj:Nat.beq (fG aO.bl) 5<;>rw [aj] at he
    . exact a8.w1 he H
    . simp [dP.none] at he
 case makeInterface t x=>
  cases aE:bg P t with
  | none=>rw [aE] at he;simp [dP.none] at he
  | some aO=>
    rw [aE] at he;simp only at he ⊢;cases aj:Nat.beq (fG aO.bl) 5<;>rw [aj] at he
    . simp only [anN,a8.val.injEq] at he ⊢;exact ⟨he.1,trivial⟩
    . simp [dP.none] at he
 case extract x i=>
  split at he
  . exact a8.w1 he H
  . cases he
 all_goals exact a8.w1 he H
end
section
variable {P:Program}
def GP (P:Program) (E:Env) (m:Sem Value) (v:V) (h ab:ah):Prop:=
 ∃k,ab=h.new k/\True/\∀w,∃X Fj,m.run P w=.ok X {w with heap:=w.heap.push Fj}/\
  ∀ax,E.le ax->ax (aD h.next)=some ⟨w.heap.size,0,0⟩->Rel ax v X/\∀B,B<=w.heap.size->hl B ax {w with heap:=w.heap.push Fj} (aD h.next) k
theorem Fa {E:Env} {h ab:ah} {ai:List V} {l:List Value} (aw:bm E ai l) (he:gU h ai=some ab) (t:TypeId):
 ∃k,ab=h.new k/\True/\∀w,(newRow t l.toArray).run P w=.ok ⟨w.heap.size,0,none⟩ {w with heap:=w.heap.push (.cells l.toArray t)}/\
  ∀ax,E.le ax->ax (aD h.next)=some ⟨w.heap.size,0,0⟩->∀B,B<=w.heap.size->hl B ax {w with heap:=w.heap.push (.cells l.toArray t)} (aD h.next) k:=by
 unfold gU at he;obtain ⟨ao,he⟩:=fg he;rw [anS] at ao;cases he;refine ⟨_,rfl,trivial,fun w=>⟨by simp [newRow],fun ax hle eP B dz=>?_⟩⟩;have:=HY (bm.mono hle _ _ aw) ao #[]
 rw [Array.append_empty] at this;exact ⟨ao,_,_,t,(0,0),eP,dz,by simp,.inr (anD _),fun _=>rfl,fun h=>absurd rfl h,this⟩
theorem Xf {E:Env} {h ab:ah} {t:TypeId} {n:Nat} {bE:List (Nat × V)} {kG:List (Nat × Value)} {v:V} (ak:sa E bE kG) (he:(vv P t n).run bE h=.val v ab):
 GP P E (Instr.buildSlice t n kG.toArray) v h ab:=by
 unfold vv at he;cases aE:bg P t with
 | none=>rw [aE] at he;cases he
 | some aO=>
   rw [aE] at he;simp only at he;have hu:=gf aE;cases b3:aO.bl with
   | slice e=>
     rw [b3] at he hu;simp only at he;cases cI:bg P e with
     | none=>rw [cI] at he;cases he
     | some bj=>
       rw [cI] at he;simp only at he;cases bJ:bj.zero with
       | none=>rw [bJ] at he;cases he
       | some z=>
         rw [bJ] at he;simp only at he;cases ao:(Nat.ble (n * bj.size) 1000000&&Nat.beq z.cells.length bj.size) with
         | false=>rw [ao] at he;cases he
         | true=>
           rw [ao] at he;simp only [anC] at he;simp only [anu,anS,an6] at ao;cases aA:n0 (fun i=>some (i * bj.size,bj.size)) (jr z.cells n) bE with
           | none=>rw [aA] at he;cases he
           | some cs=>
             rw [aA] at he;simp only at he;cases aX:gU h cs with
             | none=>rw [aX] at he;cases he
             | some J=>
               rw [aX] at he;simp only [a8.val.injEq] at he;obtain ⟨rfl,rfl⟩:=he;obtain ⟨x,ar,px,py⟩:=tj (P:=P) (E:=E) cI bJ ⟨#[],fun _ _=>0,0,default,#[]⟩;have sL:x.cells.size=bj.size:=by rw [py,ao.2]
               have sI:=zu px n;rw [sL] at sI;obtain ⟨b,lb,nq⟩:=A1 (a:=(Array.range (n * bj.size)).map (x.cells[· % x.cells.size]!)) ak (by rw [sL];exact sI) aA;obtain ⟨k,g1,g2,g3⟩:=Fa (P:=P) nq aX e;refine ⟨k,g1,g2,fun w=>⟨.slice (some ⟨w.heap.size,0,none⟩) n n,.cells b e,?_,fun ax hle eP=>⟨?_,?_⟩⟩⟩
               . have wj:¬16777216<n * bj.size:=by omega
                 have lh:(newRow e b).run P w=.ok ⟨w.heap.size,0,none⟩ {w with heap:=w.heap.push (.cells b e)}:=by simpa using (g3 w).1
                 by_cases a6:n * bj.size=0
                 . have Ip:Instr.fill (fun i=>some (i * bj.size,bj.size)) ((Array.range (n * bj.size)).map ((#[]:Array Value)[· % 0]!)) kG=some b:=by
                    have al:(Array.range (n * bj.size)).map ((#[]:Array Value)[· % 0]!)=(Array.range (n * bj.size)).map (x.cells[· % x.cells.size]!):=by rw [a6];simp
                    rw [al];exact lb
                   have Iq:Instr.fill (fun i=>some (i * bj.size,bj.size)) ((Array.range (n * bj.size)).map (fun x=>(#[]:Array Value)[x % (#[]:Array Value).size]!)) kG=some b:=Ip;simp only [Instr.buildSlice,Sem.run_bind,hu,Result.andThen_ok,kH cI,Sem.run_ite];rw [anE wj];simp only [Sem.run_pure,Result.andThen_ok,anL a6];rw [Iq];simp only [Sem.run_bind,lh,Result.andThen_ok,Sem.run_pure]
                 . simp only [Instr.buildSlice,Sem.run_bind,hu,Result.andThen_ok,kH cI,Sem.run_ite];rw [anE wj];simp only [Sem.run_pure,Result.andThen_ok,anE a6,ar];rw [lb];simp only [Sem.run_bind,lh,Result.andThen_ok,Sem.run_pure]
               . simp only [Rel];exact ⟨_,eP,anD _,by simp⟩
               . simpa using (g3 w).2 ax hle eP
   | _=>rw [b3] at he;cases he
theorem ahv {E:Env} {h ab:ah} {t:TypeId} {x y v:V} {X Y:Value} (ar:Rel E x X) (bc:Rel E y Y) (he:(wW P t).run x y h=.val v ab):
 GP P E (Instr.makeSlice t X Y) v h ab:=by
 unfold wW at he;cases aE:bg P t with
 | none=>rw [aE] at he;cases he
 | some aO=>
   rw [aE] at he;simp only at he;have hu:=gf aE;cases b3:aO.bl with
   | slice e=>
     rw [b3] at he hu;simp only at he;cases cI:bg P e with
     | none=>rw [cI] at he;cases he
     | some bj=>
       rw [cI] at he;simp only at he;cases bJ:bj.zero with
       | none=>rw [bJ] at he;cases he
       | some z=>
         rw [bJ] at he;simp only at he;cases vU:Nat.ble bj.bytes 4096 with
         | false=>rw [vU] at he;cases he
         | true=>
           rw [vU] at he;simp only [anC,uy] at he;obtain ⟨bX,l,rfl,yr⟩:=s0 he;obtain ⟨b_,c,rfl,e5⟩:=s0 yr;have:=ar.jJ;subst this;have:=bc.jJ;subst this;obtain ⟨ao,qn⟩:=jV e5;simp only [anu,pF,anM,an6] at ao;obtain ⟨⟨a6,J,ad⟩,aC⟩:=ao;rw [anS] at vU;cases aX:gU h (jr z.cells c.toNat) with
           | none=>rw [aX] at qn;cases qn
           | some bp=>
             rw [aX] at qn;simp only [a8.val.injEq] at qn;obtain ⟨rfl,rfl⟩:=qn;obtain ⟨mv,wF,px,py⟩:=tj (P:=P) (E:=E) cI bJ ⟨#[],fun _ _=>0,0,default,#[]⟩;have sL:mv.cells.size=bj.size:=by rw [py,aC]
             have sI:=zu px c.toNat;obtain ⟨k,g1,g2,g3⟩:=Fa (P:=P) sI aX e;have tZ:IntKind.i64.wrap l=l:=by simp only [IntKind.wrap,IntKind.bits,IntKind.signed];simp;omega
             have Jr:IntKind.i64.wrap c=c:=by simp only [IntKind.wrap,IntKind.bits,IntKind.signed];simp;omega
             have hmul:(bj.bytes:Int) * c<=4096 * 1000000:=by
              have aj:(bj.bytes:Int)<=4096:=by omega
              have:=Int.mul_le_mul_of_nonneg_right (c:=c) aj (by omega);omega
             refine ⟨k,g1,g2,fun w=>?_⟩;obtain ⟨i,au,rp⟩:=F2 (P:=P) cI w;refine ⟨.slice (some ⟨w.heap.size,0,none⟩) l.toNat c.toNat,_,?_,fun ax hle eP=>⟨?_,(g3 w).2 ax hle eP⟩⟩
             . have lh:=(g3 w).1;simp only [aoP] at lh;have bW:¬c<0:=by omega
               have cu:¬((bj.bytes:Int) * c>281474976710656):=by omega
               have c3:¬l<0:=by omega
               have hM:¬l>c:=by omega
               have same:(if c.toNat * bj.size=0 then (Array.range (c.toNat * bj.size)).map (fun x=>(#[]:Array Value)[x % (#[]:Array Value).size]!) else (Array.range (c.toNat * bj.size)).map (fun x=>mv.cells[x % mv.cells.size]!))=
                (Array.range (c.toNat * mv.cells.size)).map (mv.cells[· % mv.cells.size]!):=by
                rw [sL];by_cases aq:c.toNat * bj.size=0
                . rw [aq];simp
                . rw [anE aq]
               simp only [Instr.makeSlice,Sem.run_bind,hu,Result.andThen_ok,asInt,asIntOf,Sem.run_pure,au,tZ,Jr,rp];rw [anE (by simp only [aoR,anM,not_or];exact ⟨⟨⟨bW,cu⟩,c3⟩,hM⟩)];simp only [Result.andThen_ok,Sem.run_bind,run_askRoom,kH cI];by_cases aq:c.toNat * bj.size=0
               . rw [anL aq] at same;rw [anL aq];simp only [Sem.run_pure,Result.andThen_ok,Sem.run_bind,same,lh,aoP]
               . rw [anE aq] at same;rw [anE aq];simp only [Sem.run_pure,Result.andThen_ok,Sem.run_bind,wF,same,lh,aoP]
             . simp only [Rel];exact ⟨_,eP,by omega,by simp⟩
   | _=>rw [b3] at he;cases he
theorem ZH {E:Env} {h ab:ah} {call:eA} {o:Oper} {az:Nat} {r:bO} {a:Act} {v:V} (bF:hq o=true) (he:(fW P o).run call r h=.val v ab) (k:RegRel0 E az r a):
 ∃m:Sem Value,execOp a.eval o=(do pure (.value (<-m)))/\GP P E m v h ab:=by
 obtain ⟨dst,op,type,pos,after,guard⟩:=o;cases op<;>simp only [hq] at bF<;>try (cases bF;done)
 all_goals simp only [fW] at he
 case alloc t=>
  refine ⟨Instr.alloc t true (.tuple #[]),rfl,?_⟩;cases aE:bg P t with
  | none=>rw [aE] at he;simp [dP.none] at he
  | some aO=>
    rw [aE] at he;simp only at he;cases bJ:aO.zero with
    | none=>rw [bJ] at he;simp [dP.none] at he
    | some z=>
      rw [bJ] at he;simp only at he;cases aX:gU h z.cells with
      | none=>rw [aX] at he;cases he
      | some J=>
        rw [aX] at he;simp only [hF,a8.val.injEq] at he;obtain ⟨rfl,rfl⟩:=he;obtain ⟨x,ar,px,_⟩:=tj (P:=P) (E:=E) aE bJ ⟨#[],fun _ _=>0,0,default,#[]⟩;obtain ⟨dB,g1,g2,g3⟩:=Fa (P:=P) px aX t;refine ⟨dB,g1,g2,fun w=>⟨.pointer (some ⟨w.heap.size,0,none⟩),.cells x.cells t,?_,fun ax hle eP=>⟨?_,?_⟩⟩⟩
        . have:=(g3 w).1;simp only [aoP] at this;simp only [Instr.alloc,Sem.run_bind,ar,Result.andThen_ok,newVar,this,Sem.run_pure]
        . simp only [Rel];exact ⟨_,eP,by simp⟩
        . simpa using (g3 w).2 ax hle eP
 case box t x=>
  refine ⟨Instr.box t (a.eval x),rfl,?_⟩;obtain ⟨an,he⟩:=jV he;cases aX:gU h ((bZ x).run r).cells with
  | none=>rw [aX] at he;cases he
  | some J=>
    rw [aX] at he;simp only [hF,a8.val.injEq] at he;obtain ⟨rfl,rfl⟩:=he;have aw:=(eb k x).cells (fun e=>by rw [e] at an;cases an);obtain ⟨dB,g1,g2,g3⟩:=Fa (P:=P) aw aX t;refine ⟨dB,g1,g2,fun w=>⟨.pointer (some ⟨w.heap.size,0,none⟩),.cells (a.eval x).cells t,?_,fun ax hle eP=>⟨?_,?_⟩⟩⟩
    . have:=(g3 w).1;simp only [aoP] at this;simp only [Instr.box,Sem.run_bind,newVar,this,Result.andThen_ok,Sem.run_pure]
    . simp only [Rel];exact ⟨_,eP,by simp⟩
    . simpa using (g3 w).2 ax hle eP
 case buildSlice t n bE=>
  refine ⟨Instr.buildSlice t n (bE.map fun (i,x)=>(i,a.eval x)),rfl,?_⟩;rw [KC];exact Xf (Fv k bE.toList) he
 case makeSlice t l c=>exact ⟨Instr.makeSlice t (a.eval l) (a.eval c),rfl,ahv (eb k l) (eb k c) he⟩
 case makeMap t x=>
  cases x with
  | some _=>cases bF
  | none=>
    refine ⟨Instr.makeMap t none,rfl,?_⟩;simp only [rT,zc] at he;cases aE:bg P t with
    | none=>rw [aE] at he;cases he
    | some aO=>
      rw [aE] at he;simp only at he;cases aj:Nat.beq (fG aO.bl) 3 with
      | false=>rw [aj] at he;cases he
      | true=>
        rw [aj] at he;simp only [anC,wV,zg] at he;simp only [a8.val.injEq] at he;obtain ⟨rfl,rfl⟩:=he;refine ⟨_,rfl,trivial,fun w=>⟨.map (some w.heap.size),.map #[] 0,?_,fun ax hle eP=>⟨?_,fun B dz=>?_⟩⟩⟩
        . simp only [Instr.makeMap,Sem.run_bind,run_newObj,Result.andThen_ok,Sem.run_pure]
        . simp only [Rel];exact ⟨_,eP,rfl⟩
        . exact ⟨_,#[],eP,dz,by simp,rfl⟩
def Fr.hold (F:Fr) (b:aU) (k:cn):Fr:=⟨F.w,fun bV=>if bV=b then some k else F.h3 bV⟩
def Fr.free (F:Fr) (b:aU):Fr:=⟨F.w,fun bV=>if bV=b then none else F.h3 bV⟩
theorem bd.hold {F:Fr} {E:Env} {h:ah} {w:World} (s:bd F E h w) (k:cn):bd (F.hold (aD h.next) k) E (h.new k) w:=by
 have ec:=s.fresh h.next (anD _)
 refine ⟨fun b aj=>?_,fun b bu ay=>?_,fun b bV p p' J ad al aN kd=>?_,fun i au=>s.fresh i (Nat.le_of_succ_le au),s.frame,s.laid,fun b p n cs st J al=>s.base b p n cs st (by
  have de:aD h.next≠b:=fun e=>by rw [<-e,ec] at al;cases al
  rwa [ah.jC,anE de] at J) al⟩
 . simp only [Fr.hold] at aj;by_cases aq:b=aD h.next
   . rw [anL aq] at aj;cases aj
   . rw [anE aq] at aj;rw [ah.jC,anE (fun e=>aq e.symm)];exact s.bh b aj
 . simp only [Fr.hold] at ay;by_cases aq:b=aD h.next
   . rw [anL aq] at ay;cases ay;exact ⟨by rw [ah.jC,anL aq.symm],by rw [aq];exact ec,h.next,apC _,aq⟩
   . rw [anE aq] at ay;obtain ⟨ag,av,i,aJ,bU⟩:=s.pM b bu ay;exact ⟨by rw [ah.jC,anE (fun e=>aq e.symm)];exact ag,av,i,Nat.lt_succ_of_lt aJ,bU⟩
 . have de:aD h.next≠b:=fun e=>by rw [<-e,ec] at al;cases al
   have kX:aD h.next≠bV:=fun e=>by rw [<-e,ec] at aN;cases aN
   rw [ah.jC,anE de] at J;rw [ah.jC,anE kX] at ad;exact s.inj b bV p p' J ad al aN kd
theorem bd.link {F:Fr} {E:Env} {h:ah} {w:World} (s:bd F E h w) {b:aU} {k:cn} (ak:F.h3 b=some k) {o:Obj}
 (ny:hl F.w.heap.size (E.put b ⟨w.heap.size,0,0⟩) {w with heap:=w.heap.push o} b k):
 E.le (E.put b ⟨w.heap.size,0,0⟩)/\bd (F.free b) (E.put b ⟨w.heap.size,0,0⟩) h {w with heap:=w.heap.push o}:=by
 obtain ⟨ay,ec,i0,bT,vT⟩:=s.pM b k ak;have hle:E.le (E.put b ⟨w.heap.size,0,0⟩):=Env.nE ec;have eP:E.put b ⟨w.heap.size,0,0⟩ b=some ⟨w.heap.size,0,0⟩:=by unfold Env.put;rw [anL rfl]
 have hold:∀bV,bV≠b->E.put b ⟨w.heap.size,0,0⟩ bV=E bV:=by intro bV aj;unfold Env.put;rw [anE aj]
 have n5:∀bV q,E bV=some q->(h.get bV)≠.dead->q.bh<w.heap.size:=by
  intro bV q aq aZ;have aj:=s.at aq;cases an:h.get bV with
  | dead=>exact absurd an aZ
  | view n cs=>rw [an] at aj;obtain ⟨_,fH,c,el,b5,e,_,bp,_⟩:=aj;rw [e] at aq;cases aq;exact (anx.1 bp).1
  | cells n cs cH st=>rw [an] at aj;obtain ⟨_,fH,c,el,b5,e,_,bp,_⟩:=aj;rw [e] at aq;cases aq;exact (anx.1 bp).1
  | iter st pos=>rw [an] at aj;obtain ⟨fH,e,_,_,bp⟩:=aj;rw [e] at aq;cases aq;exact (anx.1 bp).1
  | mp es clock=>rw [an] at aj;obtain ⟨fH,a,e,_,bp,_⟩:=aj;rw [e] at aq;cases aq;exact (anx.1 bp).1
  | gx l=>rw [an] at aj;obtain ⟨fH,a,e,_,bp,_⟩:=aj;rw [e] at aq;cases aq;exact (anx.1 bp).1
  | gp=>rw [an] at aj;obtain ⟨fH,e,_,bp⟩:=aj;rw [e] at aq;cases aq;exact (anx.1 bp).1
  | iF es=>rw [an] at aj;obtain ⟨fH,a,c,l,e,_,bp,_⟩:=aj;rw [e] at aq;cases aq;exact (anx.1 bp).1
  | ki src since seen last=>rw [an] at aj;obtain ⟨fH,m,a,e,_,_,bp,_⟩:=aj;rw [e] at aq;cases aq;exact (anx.1 bp).1
 refine ⟨hle,fun bV gr=>?_,fun bV bu iz=>?_,fun b9 cA ct cy J ad al aN kd=>?_,fun i au=>?_,⟨s.frame.os,s.frame.tape,s.frame.output,?_,fun j bI=>?_⟩,s.laid,fun b9 ct n cs st J al=>by
  by_cases bW:b9=b
  . subst bW;rw [eP] at al;cases al;rfl
  . rw [hold b9 bW] at al;exact s.base _ _ _ _ _ J al⟩
 . by_cases aq:bV=b
   . subst aq;rw [ay];exact ny
   . simp only [Fr.free,anE aq] at gr;have a6:=(s.bh bV gr).mono hle;by_cases aZ:h.get bV=.dead
     . rw [aZ];trivial
     . refine hl.gw a6 fun q sF=>?_;rw [hold bV aq] at sF;have:=n5 bV q sF aZ;simp only [apq];rw [anE (by omega)]
 . simp only [Fr.free] at iz;by_cases aq:bV=b
   . rw [anL aq] at iz;cases iz
   . rw [anE aq] at iz;obtain ⟨ag,av,aJ⟩:=s.pM bV bu iz;exact ⟨ag,by rw [hold bV aq];exact av,aJ⟩
 . by_cases bW:b9=b<;>by_cases cu:cA=b
   . exact bW.trans cu.symm
   . subst bW;rw [eP] at al;cases al;rw [hold cA cu] at aN;have:=n5 cA cy aN (fun e=>by rw [e] at ad;cases ad);simp only at kd;omega
   . subst cu;rw [eP] at aN;cases aN;rw [hold b9 bW] at al;have:=n5 b9 ct al (fun e=>by rw [e] at J;cases J);simp only at kd;omega
   . rw [hold b9 bW] at al;rw [hold cA cu] at aN;exact s.inj b9 cA ct cy J ad al aN kd
 . rw [hold _ (fun e=>?_)]
   . exact s.fresh i au
   . rw [vT] at e;have:=lE e;omega
 . have:=s.frame.size;simp only [Array.size_push,Fr.free];omega
 . have J:=s.frame.size;simp only [Fr.free,apq];rw [anE (by simp only [Fr.free] at bI;omega)];exact s.frame.block j bI
end
section
variable {P:Program}
def e8 (es:List ft) (dr:bO) (i:Nat):bO:=
 match es[i]? with
 | some e=>e.r
 | none=>dr
theorem yt (e:ft) (es:List ft) (aA:ah) (i:Nat):cv (e::es) aA (i+1)=cv es aA i:=by simp [cv]
theorem zt (e:ft) (es:List ft) (dr:bO) (i:Nat):e8 (e::es) dr (i+1)=e8 es dr i:=by simp [e8]
theorem uV {az:Nat} {all:Array Oper} {call:eA}:∀{l:List Oper} {r dr:bO} {h aA:ah} {es:List ft},(gh P az all l).run call r h=.ok es dr aA->
 es.length=l.length/\cv es aA 0=h/\e8 es dr 0=r/\∀j o,l[j]? =some o->∃e,es[j]? =some e/\(cU P az all o).run call e.r e.h=.val e.v (cv es aA (j+1))/\e8 es dr (j+1)=(gn o.dst).run e.r e.v
 | [],r,dr,h,aA,es,he=>by simp only [gh,q1.ok.injEq] at he;obtain ⟨rfl,rfl,rfl⟩:=he;exact ⟨rfl,rfl,rfl,fun j o a1=>by simp at a1⟩
 | o::os,r,dr,h,aA,es,he=>by
   simp only [gh,CM] at he;cases J:(cU P az all o).run call r h with
   | fail=>rw [J] at he;cases he
   | c1 _ _=>rw [J] at he;simp only at he;cases hm:mR o.op<;>rw [hm] at he<;>cases he
   | val v bp=>
     rw [J] at he;simp only at he;cases ad:(gh P az all os).run call ((gn o.dst).run r v) bp with
     | fail=>rw [ad] at he;cases he
     | c1 _ _ _ _ _=>rw [ad] at he;cases he
     | ok ic bM aC=>
       rw [ad] at he;simp only [q1.ok.injEq] at he;obtain ⟨rfl,rfl,rfl⟩:=he;obtain ⟨ag,av,aJ,bU⟩:=uV ad;refine ⟨by simp [ag],by simp [cv],by simp [e8],fun j cp a1=>?_⟩;cases j with
       | zero=>
         simp only [anR,ant] at a1;subst a1;exact ⟨⟨r,h,v⟩,rfl,by rw [yt,av];exact J,by rw [zt,aJ]⟩
       | succ j=>
         obtain ⟨e,ct,cy,fj⟩:=bU j cp (by simpa using a1);exact ⟨e,by simpa using ct,by rw [yt];exact cy,by rw [zt];exact fj⟩
theorem UL {az:Nat} {all:Array Oper} {call:eA}:∀{l:List Oper} {r dr:bO} {h aA ab:ah} {es:List ft} {v:V},(gh P az all l).run call r h=.c1 es dr aA v ab->
 cv es aA 0=h/\e8 es dr 0=r/\(∀j o,j<es.length->l[j]? =some o->∃e,es[j]? =some e/\(cU P az all o).run call e.r e.h=.val e.v (cv es aA (j+1))/\e8 es dr (j+1)=(gn o.dst).run e.r e.v)/\
  ∃o,l[es.length]? =some o/\mR o.op=true/\(cU P az all o).run call dr aA=.c1 v ab
 | [],r,dr,h,aA,ab,es,v,he=>by simp [gh] at he
 | o::os,r,dr,h,aA,ab,es,v,he=>by
   simp only [gh,CM] at he;cases J:(cU P az all o).run call r h with
   | fail=>rw [J] at he;cases he
   | c1 x ar=>
     rw [J] at he;simp only at he;cases hm:mR o.op with
     | false=>rw [hm] at he;cases he
     | true=>
       rw [hm] at he;simp only [anC,q1.c1.injEq] at he;obtain ⟨rfl,rfl,rfl,rfl,rfl⟩:=he;exact ⟨rfl,rfl,fun j cp bI=>by simp at bI,o,rfl,hm,J⟩
   | val x bp=>
     rw [J] at he;simp only at he;cases ad:(gh P az all os).run call ((gn o.dst).run r x) bp with
     | fail=>rw [ad] at he;cases he
     | ok _ _ _=>rw [ad] at he;cases he
     | c1 ic bM aC v1 bn=>
       rw [ad] at he;simp only [q1.c1.injEq] at he;obtain ⟨rfl,rfl,rfl,rfl,rfl⟩:=he;obtain ⟨av,aJ,bU,dc,cX,ev,hV⟩:=UL ad;refine ⟨by simp [cv],by simp [e8],fun j cp bI a1=>?_,dc,by simpa using cX,ev,hV⟩;cases j with
       | zero=>
         simp only [anR,ant] at a1;subst a1;exact ⟨⟨r,h,x⟩,rfl,by rw [yt,av];exact J,by rw [zt,aJ]⟩
       | succ j=>
         obtain ⟨e,ct,cy,fj⟩:=bU j cp (by simpa using bI) (by simpa using a1);exact ⟨e,by simpa using ct,by rw [yt];exact cy,by rw [zt];exact fj⟩
theorem Qd {az:Nat} {d:Option Nat} (aZ:fO az d=true) {r:bO} {v:V} {t:Nat} (aE:t<=top):T.get .bad (aD t) ((gn d).run r v)=if d=some t then v else T.get .bad (aD t) r:=by
 cases d with
 | none=>simp [gn]
 | some d=>
   simp only [fO,anu,aoa,anS] at aZ;simp only [gn,T.iN,ant];by_cases h:d=t
   . subst h;simp
   . rw [anE (fun e=>h (lE e)),anE h]
theorem k9 {az:Nat} {all:Array Oper} {o:Oper} {call:eA} {r:bO} {h ab:ah} {v:V} (he:(cU P az all o).run call r h=.val v ab):fO az o.dst=true/\js (b2 all o)=true:=by
 unfold cU at he;cases ao:(fO az o.dst&&js (b2 all o)) with
 | false=>rw [ao] at he;simp [dP.none] at he
 | true=>simpa using ao
theorem Ge {r:bO} {rs:List Nat} (aL:js rs=true) {t:Nat} (aE:t<=top):T.get .bad (aD t) (dM r rs)=if t ∈ rs then T.get .bad (aD t) r else .bad:=by
 induction rs with
 | nil=>simp [dM]
 | cons u rs bC=>
   simp only [js,aoy,anu,anS] at aL;simp only [dM,T.iN,an2];by_cases h:u=t
   . subst h;simp
   . rw [anE (fun e=>h (lE e)),bC aL.2];have ab:¬t=u:=fun e=>h e.symm;simp [ab]
theorem Pk {az:Nat} {all:Array Oper} {o:Oper} {call:eA} {r:bO} {h ab:ah} {v:V} (he:(cU P az all o).run call r h=.c1 v ab):fO az o.dst=true/\js (b2 all o)=true:=by
 unfold cU at he;cases ao:(fO az o.dst&&js (b2 all o)) with
 | false=>rw [ao] at he;simp [dP.none] at he
 | true=>simpa using ao
def GS (aB:Fr) (E:Env) (o:Oper) (a:Act) (K:Act->World->Prop) (Q:Exit->Act->World->Prop):a8->Prop
 | .val v ab=>∀ax x w',E.le ax->Rel ax v x->bd aB ax ab w'->K (a.put o.dst x) w'
 | .c1 v ab=>mR o.op=true/\∀ax x w',E.le ax->Rel ax v x->bd aB ax ab w'->Q (.panic (qK x)) a w'
 | .fail=>False
theorem Pl {rd:Option Nat} {aB:Fr} {E:Env} {h:ah} {w:World} {call:eA} (aM:fa P) (db:hA P call) (eh:hI P call) {all:Array Oper} {i:Nat} {o:Oper} (au:all[i]? =some o) {az:Nat} {r:bO} {a:Act}
 (hZ:fO az o.dst=true/\js (b2 all o)=true) (qz:a.tmps.size=az) (lq:∀t ∈ b2 all o,Rel E (T.get .bad (aD t) r) (a.tmps.getD t undef)) (s:bd aB E h w)
 {K:Act->World->Prop} {Q:Exit->Act->World->Prop} (ak:GS aB E o a K Q ((cU P az all o).run call r h)):wpOpIn (cd rd) 0 P all Q i K a w:=by
 obtain ⟨aZ,aL⟩:=hZ
 have k:RegRel0 E az (dM r (b2 all o)) a:=⟨qz,fun t aE=>by
  rw [Ge aL aE];by_cases hm:t ∈ b2 all o
  . rw [anL hm];exact lq t hm
  . rw [anE hm];simp [Rel]⟩
 unfold cU at ak;rw [show (fO az o.dst&&js (b2 all o))=true from by rw [aZ,aL];rfl] at ak;simp only [anC] at ak;have wanted:GS aB E o a K Q ((fW P o).run call (dM r (b2 all o)) h)->Region.wanted o (yielded all a.tmps)=true->wpOpIn (cd rd) 0 P all Q i K a w:=by
  intro J hw;simp only [wpOpIn,au,hw,an7];cases aK:(fW P o).run call (dM r (b2 all o)) h with
  | fail=>rw [aK] at J;exact J.elim
  | val v ab=>rw [aK] at J;exact O6 aM db eh aK k s J
  | c1 v ab=>rw [aK] at J;exact O3 aM db J.1 aK k s J.2
 have U9:GS aB E o a K Q (.val (.tuple []) h)->Region.wanted o (yielded all a.tmps)=false->wpOpIn (cd rd) 0 P all Q i K a w:=by intro J hw;simp only [wpOpIn,au,hw,anV,an4];exact ⟨fun _ _=>trivial,J E undef w (Env.le.refl E) (by simp only [Rel];exact ⟨#[],rfl,rfl⟩) s⟩
 cases an:o.guard with
 | none=>
   rw [an] at ak;exact wanted ak (by simp [Region.wanted,an])
 | some qD=>
   obtain ⟨j,want⟩:=qD;rw [an] at ak;simp only at ak;cases bI:all[j]? with
   | none=>rw [bI] at ak;exact ak.elim
   | some g=>
     rw [bI] at ak;simp only at ak;cases lj:g.dst with
     | none=>rw [lj] at ak;exact ak.elim
     | some d=>
       rw [lj] at ak;simp only at ak;cases ao:(Nat.blt d az&&Nat.ble d top) with
       | false=>rw [ao] at ak;exact ak.elim
       | true=>
         rw [ao] at ak;simp only [anC,jW,pk] at ak;simp only [anu,aoa,anS] at ao;obtain ⟨g1,g2⟩:=H9 k bI lj ao.1 ao.2;cases bB:T.get .bad (aD d) (dM r (b2 all o))<;>rw [bB] at ak<;>simp only at ak<;>try (exact ak.elim)
         . rename_i b;have bc:=g1 b bB;cases aj:(bif want then b else !b) with
           | true=>
             rw [aj] at ak;simp only [anC] at ak;refine wanted ak ?_;simp only [Region.wanted,an,bc];cases want<;>cases b<;>simp_all
           | false=>
             rw [aj] at ak;simp only [anN] at ak;refine U9 ak ?_;simp only [Region.wanted,an,bc];cases want<;>cases b<;>simp_all
         . rename_i ai;have bc:=g2 ai bB;refine U9 ak ?_;simp only [Region.wanted,an,bc];rfl
theorem q_ {rd:Option Nat} {aB:Fr} {E:Env} {h ab:ah} {w:World} {call:eA} (aM:fa P) (db:hA P call) (eh:hI P call) {all:Array Oper} {i:Nat} {o:Oper} (au:all[i]? =some o) {az:Nat} {r:bO} {a:Act} {v:V}
 (he:(cU P az all o).run call r h=.val v ab) (qz:a.tmps.size=az) (lq:∀t ∈ b2 all o,Rel E (T.get .bad (aD t) r) (a.tmps.getD t undef)) (s:bd aB E h w)
 {K:Act->World->Prop} {Q:Exit->Act->World->Prop} (dW:∀ax x w',E.le ax->Rel ax v x->bd aB ax ab w'->K (a.put o.dst x) w'):wpOpIn (cd rd) 0 P all Q i K a w:=
 Pl aM db eh au (k9 he) qz lq s (by rw [he];exact dW)
theorem Z_ {rd:Option Nat} {aB:Fr} {E:Env} {h ab:ah} {w:World} {call:eA} (aM:fa P) (db:hA P call) (eh:hI P call) {all:Array Oper} {i:Nat} {o:Oper} (au:all[i]? =some o) {az:Nat} {r:bO} {a:Act} {v:V}
 (he:(cU P az all o).run call r h=.c1 v ab) (hm:mR o.op=true) (qz:a.tmps.size=az) (lq:∀t ∈ b2 all o,Rel E (T.get .bad (aD t) r) (a.tmps.getD t undef)) (s:bd aB E h w)
 {K:Act->World->Prop} {Q:Exit->Act->World->Prop} (dX:∀ax x w',E.le ax->Rel ax v x->bd aB ax ab w'->Q (.panic (qK x)) a w'):wpOpIn (cd rd) 0 P all Q i K a w:=
 Pl aM db eh au (Pk he) qz lq s (by rw [he];exact ⟨hm,dX⟩)
theorem vB {az:Nat} {all:Array Oper} {o:Oper} {call:eA} {r:bO} {h ab:ah} {v:V} (aq:fy P o.op=false) (he:(cU P az all o).run call r h=.val v ab):
 ab=h/\(looks o.op=false->∀H,(cU P az all o).run call r H=.val v H):=by
 obtain ⟨aZ,aL⟩:=k9 he;have dI:(fO az o.dst&&js (b2 all o))=true:=by rw [aZ,aL];rfl
 have key:cU P az all o=(match o.guard with
  | none=>⟨jW none (fW P o) (b2 all o)⟩
  | some (j,want)=>match all[j]? with
    | some g=>match g.dst with
      | some d=>bif Nat.blt d az&&Nat.ble d top then ⟨jW (some (pk (aD d),want)) (fW P o) (b2 all o)⟩ else dP.none
      | none=>dP.none
    | none=>dP.none):=by
  unfold cU;rw [dI];rfl
 rw [key] at he ⊢;cases an:o.guard with
 | none=>
   rw [an] at he;exact ⟨O5 aq he,fun aw H=>O4 aq aw he H⟩
 | some qD=>
   obtain ⟨j,want⟩:=qD;rw [an] at he;simp only at he ⊢;cases bI:all[j]? with
   | none=>rw [bI] at he;simp [dP.none] at he
   | some g=>
     rw [bI] at he;simp only at he ⊢;cases lj:g.dst with
     | none=>rw [lj] at he;simp [dP.none] at he
     | some d=>
       rw [lj] at he;simp only at he ⊢;cases ao:(Nat.blt d az&&Nat.ble d top) with
       | false=>rw [ao] at he;simp [dP.none] at he
       | true=>
         rw [ao] at he;simp only [anC,jW] at he ⊢;cases bB:(pk (aD d)).run (dM r (b2 all o))<;>rw [bB] at he<;>simp only at he ⊢<;>try (cases he;done)
         . rename_i b;cases aj:(bif want then b else !b)<;>rw [aj] at he<;>simp only [anC,anN] at he ⊢
           . simp only [a8.val.injEq] at he ⊢;exact ⟨he.2.symm,fun _ H=>⟨he.1,trivial⟩⟩
           . exact ⟨O5 aq he,fun aw H=>O4 aq aw he H⟩
         . simp only [a8.val.injEq] at he ⊢;exact ⟨he.2.symm,fun _ H=>⟨he.1,trivial⟩⟩
theorem Mf {op:dP} {call:eA} {es:List ft} {aA:ah} {r:bO} {v:V}:∀{kn:List Nat},Dw op call es aA r v kn=true->∀s ∈ kn,∃ab,op.run call r (cv es aA s)=.val v ab
 | [],_,s,h=>by simp at h
 | h6::kn,he,s,hm=>by
   simp only [Dw,anu] at he;simp only [an2] at hm;rcases hm with rfl | hm
   . have J:=he.1;cases aK:op.run call r (cv es aA s) with
     | fail=>rw [aK] at J;cases J
     | c1 _ _=>rw [aK] at J;cases J
     | val c_ ab=>
       rw [aK] at J;rw [HR J];exact ⟨ab,rfl⟩
   . exact Mf he.2 s hm
theorem Ha {az:Nat} {all:Array Oper} {eI aF fb:List Nat} {call:eA} {es:List ft} {aA:ah}:∀{l:List Oper} {i:Nat},(sf P az all eI aF fb i l).run call es aA=true->
 ∀j o,l[j]? =some o->looks o.op=true->fy P o.op=false->∀e,es[posOf aF (i+j)]? =some e->∀s ∈ fb,sX P eI all.toList aF (i+j) ((eI[i+j]?).getD 0) s=true->∃ab,(cU P az all o).run call e.r (cv es aA s)=.val e.v ab
 | [],_,_,j,o,a1,_,_=>by simp at a1
 | cp::os,i,he,j,o,a1,aw,aq=>by
   simp only [sf] at he;cases j with
   | zero=>
     simp only [anR,ant] at a1;subst a1;rw [aw,aq] at he;simp only [Bool.not_false,aoz,anC,anu,Mg] at he;have J:=he.1;intro e rl s aL hm
     . rw [ao7] at rl;rw [rl] at J;exact Mf J s (List.mem_filter.2 ⟨aL,by simpa using hm⟩)
   | succ j=>
     have rest:(sf P az all eI aF fb (i+1) os).run call es aA=true:=by
      cases ao:(looks cp.op&&!fy P cp.op) with
      | false=>rw [ao] at he;exact he
      | true=>rw [ao] at he;simp only [anC,anu] at he;exact he.2
     have:=Ha rest j o (by simpa using a1) aw aq;rw [show i + (j+1)=i+1+j from by omega];exact this
theorem za {aF:List Nat}:∀{l:List Oper} {i j:Nat} {o:Oper},l[j]? =some o->eX P o=true->posOf aF (i+j) ∈ iq P aF i l
 | [],_,j,o,h,_=>by simp at h
 | cp::os,i,j,o,h,he=>by
   simp only [iq];cases j with
   | zero=>
     simp only [anR,ant] at h;subst h;rw [he];simp
   | succ j=>
     have:=za (aF:=aF) (i:=i+1) (by simpa using h) he;rw [show i + (j+1)=i+1+j from by omega];cases eX P cp with
     | true=>simp [this]
     | false=>exact this
theorem E1 {aF:List Nat}:∀{l:List Oper} {i:Nat},i+l.length ∈ iq P aF i l
 | [],_=>by simp [iq]
 | o::os,i=>by
   have:=E1 (aF:=aF) (l:=os) (i:=i+1);simp only [iq,anz];rw [show i + (os.length+1)=i+1+os.length from by omega];cases eX P o with
   | true=>simp [this]
   | false=>exact this
theorem uu {aF:List Nat}:∀{l:List Oper} {i s:Nat},s ∈ iq P aF i l->s=i+l.length\/∃j o,l[j]? =some o/\eX P o=true/\s=posOf aF (i+j)
 | [],i,s,h=>by simp only [iq,apc] at h;exact .inl (by simpa using h)
 | o::os,i,s,h=>by
   simp only [iq] at h;have rest:s ∈ iq P aF (i+1) os->s=i + (o::os).length\/∃j cp,(o::os)[j]? =some cp/\eX P cp=true/\s=posOf aF (i+j):=by
    intro h;rcases uu h with h | ⟨j,cp,J,ad,aC⟩
    . exact .inl (by simp only [anz];omega)
    . exact .inr ⟨j+1,cp,by simpa using J,ad,by rw [aC];congr 1;omega⟩
   cases ao:eX P o with
   | true=>
     rw [ao] at h;simp only [anC,an2] at h;rcases h with h | h
     . exact .inr ⟨0,o,rfl,ao,h⟩
     . exact rest h
   | false=>rw [ao] at h;exact rest h
theorem ZB {c:Bool} {f:V->V->ah->a8} {x y v:V} {h ab:ah} (he:(bif c then (⟨f⟩:zX) else ⟨fun _ _ _=>.fail⟩).run x y h=.val v ab):c=true/\f x y h=.val v ab:=by
 cases c with
 | true=>exact ⟨rfl,he⟩
 | false=>cases he
theorem ZI {o:Oper} {call:eA} {r:bO} {h ab:ah} {v:V} (bF:hq o=true) (he:(fW P o).run call r h=.val v ab):∃k,ab=h.new k/\True:=by
 have cells:∀{ai:List V} {J:ah},gU h ai=some J->∃k,J=h.new k/\True:=by intro ai J he;unfold gU at he;obtain ⟨ao,he⟩:=fg he;cases he;exact ⟨_,rfl,trivial⟩
 obtain ⟨dst,op,type,pos,after,guard⟩:=o;cases op<;>simp only [hq] at bF<;>try (cases bF;done)
 all_goals simp only [fW] at he
 case alloc t=>
  cases aE:bg P t with
  | none=>rw [aE] at he;simp [dP.none] at he
  | some aO=>
    rw [aE] at he;simp only at he;cases bJ:aO.zero with
    | none=>rw [bJ] at he;simp [dP.none] at he
    | some z=>
      rw [bJ] at he;simp only at he;cases aX:gU h z.cells with
      | none=>rw [aX] at he;cases he
      | some J=>
        rw [aX] at he;simp only [hF,a8.val.injEq] at he;obtain ⟨_,rfl⟩:=he;exact cells aX
 case box t x=>
  obtain ⟨an,he⟩:=jV he;cases aX:gU h ((bZ x).run r).cells with
  | none=>rw [aX] at he;cases he
  | some J=>
    rw [aX] at he;simp only [hF,a8.val.injEq] at he;obtain ⟨_,rfl⟩:=he;exact cells aX
 case buildSlice t n bE=>
  unfold vv at he;cases aE:bg P t with
  | none=>rw [aE] at he;cases he
  | some aO=>
    rw [aE] at he;simp only at he;cases b3:aO.bl<;>rw [b3] at he<;>simp only at he<;>try (cases he;done)
    rename_i e;cases cI:bg P e with
    | none=>rw [cI] at he;cases he
    | some bj=>
      rw [cI] at he;simp only at he;cases bJ:bj.zero with
      | none=>rw [bJ] at he;cases he
      | some z=>
        rw [bJ] at he;simp only at he;cases ao:(Nat.ble (n * bj.size) 1000000&&Nat.beq z.cells.length bj.size) with
        | false=>rw [ao] at he;cases he
        | true=>
          rw [ao] at he;simp only [anC] at he;cases aA:n0 (fun i=>some (i * bj.size,bj.size)) (jr z.cells n) ((uJ bE.toList).run r) with
          | none=>rw [aA] at he;cases he
          | some cs=>
            rw [aA] at he;simp only at he;cases aX:gU h cs with
            | none=>rw [aX] at he;cases he
            | some J=>
              rw [aX] at he;simp only [a8.val.injEq] at he;obtain ⟨_,rfl⟩:=he;exact cells aX
 case makeSlice t l c=>
  unfold wW at he
  split at he
  rotate_left
  . cases he
  split at he
  rotate_left
  . cases he
  split at he
  rotate_left
  . cases he
  split at he
  rotate_left
  . cases he
  obtain ⟨_,he⟩:=ZB he;simp only [uy] at he;obtain ⟨_,_,_,he⟩:=s0 he;obtain ⟨_,_,_,he⟩:=s0 he;obtain ⟨_,he⟩:=jV he
  split at he
  . rename_i aX;simp only [a8.val.injEq] at he;obtain ⟨_,rfl⟩:=he;exact cells aX
  . cases he
 case makeMap t x=>
  cases x with
  | some _=>cases bF
  | none=>
    simp only [rT,zc] at he;cases aE:bg P t with
    | none=>rw [aE] at he;cases he
    | some aO=>
      rw [aE] at he;simp only at he;cases aj:Nat.beq (fG aO.bl) 3 with
      | false=>rw [aj] at he;cases he
      | true=>
        rw [aj] at he;simp only [anC,wV,zg] at he;simp only [a8.val.injEq] at he;exact ⟨_,he.2.symm,trivial⟩
theorem ad4 {o:Oper} (bF:hq o=true):fy P o.op=true:=by obtain ⟨dst,op,type,pos,after,guard⟩:=o;cases op<;>simp only [hq] at bF<;>first | (cases bF;done) | rfl
theorem Pn {az:Nat} {all:Array Oper} {o:Oper} {call:eA} {r:bO} {h ab:ah} {v:V} (he:(cU P az all o).run call r h=.val v ab):
 ((fW P o).run call (dM r (b2 all o)) h=.val v ab/\∀E a,RegRel0 E az (dM r (b2 all o)) a->Region.wanted o (yielded all a.tmps)=true)\/
 (ab=h/\∀H,(cU P az all o).run call r H=.val v H):=by
 obtain ⟨aZ,aL⟩:=k9 he;have dI:(fO az o.dst&&js (b2 all o))=true:=by rw [aZ,aL];rfl
 have key:cU P az all o=(match o.guard with
  | none=>⟨jW none (fW P o) (b2 all o)⟩
  | some (j,want)=>match all[j]? with
    | some g=>match g.dst with
      | some d=>bif Nat.blt d az&&Nat.ble d top then ⟨jW (some (pk (aD d),want)) (fW P o) (b2 all o)⟩ else dP.none
      | none=>dP.none
    | none=>dP.none):=by
  unfold cU;rw [dI];rfl
 rw [key] at he ⊢;cases an:o.guard with
 | none=>
   rw [an] at he;exact .inl ⟨he,fun E a _=>by simp [Region.wanted,an]⟩
 | some qD=>
   obtain ⟨j,want⟩:=qD;rw [an] at he;simp only at he ⊢;cases bI:all[j]? with
   | none=>rw [bI] at he;simp [dP.none] at he
   | some g=>
     rw [bI] at he;simp only at he ⊢;cases lj:g.dst with
     | none=>rw [lj] at he;simp [dP.none] at he
     | some d=>
       rw [lj] at he;simp only at he ⊢;cases ao:(Nat.blt d az&&Nat.ble d top) with
       | false=>rw [ao] at he;simp [dP.none] at he
       | true=>
         rw [ao] at he;simp only [anC,jW] at he ⊢;have jF:=ao;simp only [anu,aoa,anS] at jF;cases bB:(pk (aD d)).run (dM r (b2 all o))<;>rw [bB] at he<;>simp only at he ⊢<;>try (cases he;done)
         . rename_i b;cases aj:(bif want then b else !b)<;>rw [aj] at he<;>simp only [anC,anN] at he ⊢
           . simp only [a8.val.injEq] at he ⊢;exact .inr ⟨he.2.symm,fun H=>⟨he.1,trivial⟩⟩
           . refine .inl ⟨he,fun E a k=>?_⟩;obtain ⟨g1,_⟩:=H9 k bI lj jF.1 jF.2;have bc:=g1 b bB;simp only [Region.wanted,an,bc];cases want<;>cases b<;>simp_all
         . simp only [a8.val.injEq] at he ⊢;exact .inr ⟨he.2.symm,fun H=>⟨he.1,trivial⟩⟩
theorem Pm {az:Nat} {all:Array Oper} {o:Oper} {call:eA} {r:bO} {h ab:ah} {v:V} (bF:hq o=true) (he:(cU P az all o).run call r h=.val v ab):
 (∃k,ab=h.new k/\True)\/(ab=h/\∀H,(cU P az all o).run call r H=.val v H):=by
 rcases Pn he with ⟨J,_⟩ | J
 . exact .inl (ZI bF J)
 . exact .inr J
theorem Z9 {rd:Option Nat} {F:Fr} {E:Env} {h ab H:ah} {w:World} {call:eA} {all:Array Oper} {i:Nat} {o:Oper} (au:all[i]? =some o) (bF:hq o=true) {az:Nat} {r:bO} {a:Act} {v:V}
 (he:(cU P az all o).run call r h=.val v ab) (qz:a.tmps.size=az) (lq:∀t ∈ b2 all o,Rel E (T.get .bad (aD t) r) (a.tmps.getD t undef)) (s:bd F E H w)
 (I0:ab.next≠h.next) (ak:F.h3 (aD h.next)=some (ab.get (aD h.next)))
 {K:Act->World->Prop} {Q:Exit->Act->World->Prop} (dW:∀ax x w',E.le ax->Rel ax v x->bd (F.free (aD h.next)) ax H w'->K (a.put o.dst x) w'):wpOpIn (cd rd) 0 P all Q i K a w:=by
 obtain ⟨aZ,aL⟩:=k9 he
 have k:RegRel0 E az (dM r (b2 all o)) a:=⟨qz,fun t aE=>by
  rw [Ge aL aE];by_cases hm:t ∈ b2 all o
  . rw [anL hm];exact lq t hm
  . rw [anE hm];simp [Rel]⟩
 obtain ⟨eW,hw⟩:(fW P o).run call (dM r (b2 all o)) h=.val v ab/\Region.wanted o (yielded all a.tmps)=true:=by
  rcases Pn he with ⟨J,ad⟩ | ⟨J,_⟩
  . exact ⟨J,ad E a k⟩
  . exact absurd (by rw [J]) I0
 obtain ⟨m,ar,dB,ag,av,aJ⟩:=ZH bF eW k;simp only [wpOpIn,au,hw,an7];obtain ⟨X,Fj,ct,cy⟩:=aJ w;rw [ag,ah.jC,anL rfl] at ak;have eP:E.put (aD h.next) ⟨w.heap.size,0,0⟩ (aD h.next)=some ⟨w.heap.size,0,0⟩:=by unfold Env.put;rw [anL rfl]
 have hle:E.le (E.put (aD h.next) ⟨w.heap.size,0,0⟩):=Env.nE (s.pM _ _ ak).2.1;obtain ⟨bM,dw⟩:=cy _ hle eP;have cx:F.w.heap.size<=w.heap.size:=s.frame.size;obtain ⟨_,kU⟩:=s.link ak (o:=Fj) (dw _ cx);refine ⟨fun _ _=>trivial,?_⟩;rw [qQ (by intro c h;have:=bF;unfold hq at this;rw [h] at this;cases this),ar,Sem.run_bind,ct];exact dW _ X _ hle bM kU
end
end
end Go.Proofs.YtefceblncmdkhaaGreatDoor.bb
