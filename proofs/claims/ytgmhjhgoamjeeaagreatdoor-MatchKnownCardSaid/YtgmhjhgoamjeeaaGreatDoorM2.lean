/- The abstract machine and its walks (a verified interpreter of the model's code: plain definitions and lemmas, no condition). Printed by a program from longer texts: names made short. -/
import Derived.Test.YtgmhjhgoamjeeaaGreatDoorM1
import Derived.LaidEqlPtr
import Derived.RangeFuncLeaves
import Derived.RecoverIn
import Derived.OrdersIn
set_option linter.unusedSectionVars false
set_option linter.unusedSimpArgs false
set_option linter.unusedVariables false
set_option maxHeartbeats 64000000
noncomputable section
namespace Go.Proofs.YtgmhjhgoamjeeaaGreatDoor.aX
section
open Go Go.RowKit
variable [Lay]
theorem aL.l5:∀{p q:aL},aL.gL p q=true->p=q
 | .z,.z,_=>rfl
 | .l p,.l q,h=>by rw [aL.l5 (p:=p) (q:=q) h]
 | .r p,.r q,h=>by rw [aL.l5 (p:=p) (q:=q) h]
 | .z,.l _,h=>by cases h
 | .z,.r _,h=>by cases h
 | .l _,.z,h=>by cases h
 | .l _,.r _,h=>by cases h
 | .r _,.z,h=>by cases h
 | .r _,.l _,h=>by cases h
theorem aL.AH:∀p:aL,aL.gL p p=true
 | .z=>rfl
 | .l p=>aL.AH p
 | .r p=>aL.AH p
section
variable {P:Program}
theorem T' {ay:Fr} {E:Env} {h:ae} {w:World} (s:a8 ay E h w) {b:aL} {p:jb} (af:E b=some p) (ah:(h.get b).FU=true):(h.get b).own=true/\∃c t,w.heap[p.aW]? =some (.cells c t (0,0)):=by
 have aB:=s.at af;cases aG:h.get b<;>rw [aG] at ah<;>try (cases ah;done)
 rename_i n cs cH st;rw [aG] at aB;obtain ⟨_,p',c,el,bZ,aK,_,yn,_,cz,_⟩:=aB;rw [af] at aK;cases aK;have:st=false:=by simpa [b1.FU] using ah
 rw [cz this] at yn;exact ⟨rfl,c,el,yn⟩
theorem Un {t:TypeId} (h:iU P t=true):∃e j,P.underlying t=some (.pointer e)/\P.info? e=some j/\j.size≠0:=by
 unfold iU at h;cases aE:ba P t with
 | none=>rw [aE] at h;cases h
 | some aO=>
   rw [aE] at h;simp only at h;cases hu:aO.bj<;>rw [hu] at h<;>simp only at h<;>try (cases h;done)
   rename_i e;cases he:ba P e with
   | none=>rw [he] at h;cases h
   | some bd=>
     rw [he] at h;simp only at h;obtain ⟨_,_,ad,_⟩:=u1 aE;obtain ⟨j,g1,_,g3,_⟩:=u1 he;refine ⟨e,j,by rw [ad,hu],g1,fun dw=>?_⟩;rw [g3,dw] at h;cases h
theorem akD {t:TypeId} (h:iU P t=true) (w:World):∃e,(underlying t).run P w=.ok (.pointer e) w:=by obtain ⟨e,_,aa,_⟩:=Un h;exact ⟨e,LJ aa w⟩
theorem alv {t e:TypeId} {w:World} (hu:(underlying t).run P w=.ok (.pointer e) w) (b:Bool) (v:Value):(Instr.checkKey b 10000 t v).run P w=.ok () w:=by show (Instr.checkKey b (9999+1) t v).run P w=.ok () w;unfold Instr.checkKey;rw [Sem.run_bind,hu];rfl
theorem Ul {ay:Fr} {E:Env} {h:ae} {w:World} (s:a8 ay E h w) {t:TypeId} (aE:iU P t=true) {x y:V} {X Y:Value} {b:Bool} (he:js h x y=some b) (aj:Rel E x X) (a6:Rel E y Y):
 (∃a c,X=.pointer (some a)/\Y=.pointer (some c))/\∀d,(Op.equalIn (d+1) t X Y).run P w=.ok b w:=by
 obtain ⟨e,j,af,cl,cq⟩:=Un aE;unfold js at he
 split at he
 case h_2=>cases he
 rename_i b8 cX
 split at he
 case h_2=>cases he
 rename_i cg ck;simp only [Rel] at aj a6;obtain ⟨p,kD,rfl⟩:=aj;obtain ⟨q,hZ,rfl⟩:=a6;refine ⟨⟨_,_,rfl,rfl⟩,fun d=>?_⟩;cases heq:aL.gL b8 cg with
 | true=>
   rw [heq] at he;simp only [apu,aps] at he;have:=aL.l5 heq;subst this;rw [kD] at hZ;cases hZ;have ah:b=decide (cX=ck):=by
    rw [<-he];by_cases h:cX=ck
    . subst h;simp
    . rw [aqj h,<-ap2,apV];exact h
   have key:(sameAddr ⟨p.aW,p.base+cX,none⟩ ⟨p.aW,p.base+ck,none⟩).run P w=.ok b w:=by
    rw [ah];by_cases h:cX=ck
    . subst h;simpa using run_sameAddr_same w (⟨p.aW,p.base+cX,none⟩:Addr)
    . have c4:((⟨p.aW,p.base+cX,none⟩:Addr) == ⟨p.aW,p.base+ck,none⟩)=false:=by
       rw [aqL];intro e;injection e with _ aS _
       omega
      simp [sameAddr,c4,h]
   simp [Op.equalIn,run_underlying af,sizeOf,typeInfo,cl,cq,key]
 | false=>
   rw [heq] at he;simp only [apA] at he;obtain ⟨ao,he⟩:=ev he;simp only [apq] at ao;cases he;obtain ⟨K8,bK,t1,q6⟩:=T' s kD ao.1;obtain ⟨K9,bR,t2,Jf⟩:=T' s hZ ao.2;have c4:(⟨p.aW,p.base+cX,none⟩:Addr)≠⟨q.aW,q.base+ck,none⟩:=by
    intro e;injection e with aK _ _
    have:=s.inj b8 cg p q K8 K9 kD hZ aK;subst this;rw [aL.AH] at heq;cases heq
   simp [Op.equalIn,run_underlying af,sizeOf,typeInfo,cl,cq,run_sameAddr_other w c4 q6 Jf]
theorem Uk {ay:Fr} {E:Env} {h:ae} {w:World} (s:a8 ay E h w) {op:BinOp} {t:TypeId} {neg:Bool} (lG:wY P op t=some neg) {x y:V} {iS iT:Operand} {X Y:Value} {b:Bool} (he:js h x y=some b) (aj:Rel E x X) (a6:Rel E y Y):
 ∃Z,(do eqGuard op t iS iT X Y;binOp op t X Y:Sem Value).run P w=.ok Z w/\Rel E (.bool (bif neg then !b else b)) Z:=by
 unfold wY at lG;have main:iU P t=true->((op=.eql/\neg=false)\/(op=.neq/\neg=true))->∃Z,(do eqGuard op t iS iT X Y;binOp op t X Y:Sem Value).run P w=.ok Z w/\Rel E (.bool (bif neg then !b else b)) Z:=by
  intro aE ma;obtain ⟨⟨a,c,rfl,rfl⟩,cR⟩:=Ul s aE he aj a6;have aG:=fun (o:BinOp)=>DU (P:=P) (op:=o) (t:=t) (x:=iS) (y:=iT) (X:=.pointer (some a)) (Y:=.pointer (some c)) (by simp) (.inl (by simp)) w;have aK:(Op.equal t (.pointer (some a)) (.pointer (some c))).run P w=.ok b w:=cR 9999;rcases ma with ⟨rfl,rfl⟩ | ⟨rfl,rfl⟩
  . refine ⟨.bool b,?_,by simp [Rel]⟩;rw [Sem.run_bind,aG,Result.andThen_ok,binOp_eql (X:=.pointer (some a)) True.intro,Sem.run_bind,aK];rfl
  . refine ⟨.bool (!b),?_,by simp [Rel]⟩;rw [Sem.run_bind,aG,Result.andThen_ok,binOp_neq (X:=.pointer (some a)) True.intro,Sem.run_bind,aK];rfl
 cases op<;>simp only at lG<;>try (cases lG;done)
 . obtain ⟨aa,ad⟩:=ev lG;cases ad;exact main aa (.inl ⟨rfl,rfl⟩)
 . obtain ⟨aa,ad⟩:=ev lG;cases ad;exact main aa (.inr ⟨rfl,rfl⟩)
end
section
variable {P:Program}
def xx (P:Program) (w:World) (E:Env) (da:TypeId) (e:dD):Prop:=
 ∀k br K nv b,e.run k br=some b->Rel E k K->Rel E br nv->(Op.equal da K nv).run P w=.ok b w/\(b=true->nv=K/\Instr.sameBits 10000 K K=true)
theorem akC {ay:Fr} {E:Env} {h:ae} {w:World} (s:a8 ay E h w) {da:TypeId} (aE:iU P da=true):xx P w E da ⟨js h⟩:=by
 intro k br K nv b he aj a6;obtain ⟨⟨a,c,rfl,rfl⟩,cR⟩:=Ul s aE he aj a6;refine ⟨cR 9999,fun ah=>?_⟩;subst ah;simp only [js] at he
 split at he
 case h_2=>cases he
 split at he
 case h_2=>cases he
 rename_i b8 cX _ cg ck;simp only [Rel] at aj a6;obtain ⟨p,kD,aj⟩:=aj;obtain ⟨q,hZ,a6⟩:=a6;cases heq:aL.gL b8 cg with
 | false=>
   rw [heq] at he;simp only [apA] at he;obtain ⟨_,he⟩:=ev he;cases he
 | true=>
   rw [heq] at he;simp only [apu,aps] at he;have:=aL.l5 heq;subst this;rw [kD] at hZ;cases hZ;have:=aqg he;subst this;rw [aj,a6];exact ⟨rfl,by simp [Instr.sameBits]⟩
theorem Qt {w:World} {E:Env} {da:TypeId} {e:dD} (iy:xx P w E da e) {k:V} {K:Value} (aB:Rel E k K):∀(es:List b3) (l:List MapEntry) (r:Option V) (i:Nat),j2 e k es=some r->dm E es l->
 ∃R,(Instr.findAsking da K l i).run P w=.ok R w/\(match r with
  | none=>R=none
  | some v=>∃j Y,R=some (j,Y)/\Rel E v Y)
 | [],l,r,i,h,aC=>by simp only [dm] at aC;subst aC;simp only [j2,aps] at h;subst h;exact ⟨none,rfl,rfl⟩
 | m::ms,l,r,i,h,aC=>by
   obtain ⟨cI,es,rfl,aa,ad,aJ,bu⟩:=aC;simp only [j2] at h;cases aZ:e.run k m.k with
   | none=>rw [aZ] at h;cases h
   | some b=>
     rw [aZ] at h;simp only at h;obtain ⟨ak,al⟩:=iy _ _ _ _ _ aZ aB aa;cases b with
     | true=>
       simp only [apu,aps] at h;subst h;exact ⟨some (i,cI.val),by simp [Instr.findAsking,ak],i,cI.val,rfl,ad⟩
     | false=>
       simp only [apA] at h;obtain ⟨R,g1,g2⟩:=Qt iy aB ms es r (i+1) h bu;exact ⟨R,by simp [Instr.findAsking,ak,g1],g2⟩
theorem Uo {w:World} {E:Env} {da:TypeId} {e:dD} (iy:xx P w E da e) {k v:V} {K X:Value} (aB:Rel E k K) (bs:Rel E v X) (clock:Nat):∀(es:List b3) (l:List MapEntry) (r:List b3 × Bool) (i:Nat),kP e k v clock es=some r->dm E es l->
 (r.2=true->(Instr.findAsking da K l i).run P w=.ok none w/\dm E r.1 (l++[⟨K,X,clock⟩]))/\
 (r.2=false->∃j cI Y,(Instr.findAsking da K l i).run P w=.ok (some (i+j,Y)) w/\l[j]? =some cI/\Instr.sameBits 10000 cI.key K=true/\dm E r.1 (l.modify j fun cI=>{cI with key:=K,val:=X}))
 | [],l,r,i,h,aC=>by simp only [dm] at aC;subst aC;simp only [kP,aps] at h;subst h;exact ⟨fun _=>⟨rfl,_,_,rfl,aB,bs,rfl,rfl⟩,fun h=>by cases h⟩
 | m::ms,l,r,i,h,aC=>by
   obtain ⟨cI,es,rfl,aa,ad,aJ,bu⟩:=aC;simp only [kP] at h;cases aZ:e.run k m.k with
   | none=>rw [aZ] at h;cases h
   | some b=>
     rw [aZ] at h;simp only at h;obtain ⟨ak,al⟩:=iy _ _ _ _ _ aZ aB aa;cases b with
     | true=>
       simp only [apu,aps] at h;subst h;obtain ⟨aI,bB⟩:=al rfl;refine ⟨fun h=>(by cases h),fun _=>⟨0,cI,cI.val,by simp [Instr.findAsking,ak],rfl,by rw [aI];exact bB,?_⟩⟩;exact ⟨_,es,rfl,aB,bs,aJ,bu⟩
     | false=>
       simp only [apA] at h;cases af:kP e k v clock ms with
       | none=>rw [af] at h;cases h
       | some a_=>
         rw [af] at h;simp only [aps] at h;subst h;obtain ⟨g1,g2⟩:=Uo iy aB bs clock ms es a_ (i+1) af bu;refine ⟨fun h=>?_,fun h=>?_⟩
         . obtain ⟨bD,a2⟩:=g1 h;exact ⟨by simp [Instr.findAsking,ak,bD],⟨cI,es++[⟨K,X,clock⟩],rfl,aa,ad,aJ,a2⟩⟩
         . obtain ⟨j,cC,Y,bD,a2,a3,a4⟩:=g2 h;exact ⟨j+1,cC,Y,by simp [Instr.findAsking,ak,bD];omega,by simpa using a2,a3,⟨cI,_,rfl,aa,ad,aJ,a4⟩⟩
theorem alx {da:TypeId} {kp:TypeId} {w:World} (hu:(underlying da).run P w=.ok (.pointer kp) w) {K:Value} {l:List MapEntry} {R:Option (Nat × Value)} (h:(Instr.findAsking da K l 0).run P w=.ok R w):
 (Instr.findKey da K l).run P w=.ok R w:=by
 cases l with
 | nil=>
   simp only [Instr.findAsking,Sem.run_pure] at h;cases h;simp [Instr.findKey,hu,Instr.findNow]
 | cons cI es=>
   have aV:Instr.findNow (.pointer kp) K (cI::es) 0=none:=by simp [Instr.findNow,Instr.sameNow]
   simp [Instr.findKey,hu,aV,h]
theorem abb {x y:V} (h:sq x y=true):x=y:=by
 cases x<;>simp only [sq] at h<;>try (cases h;done)
 all_goals (cases y<;>simp only at h<;>try (cases h;done))
 . rw [aqZ] at h;rw [h]
 . simp only [apq,l5,aqZ] at h;rw [tR h.1,h.2]
 . rw [vp,aqZ] at h;rw [h]
theorem Qc:∀{xs cp:List V},pE xs cp=true->xs=cp
 | [],[],_=>rfl
 | [],_::_,h=>by cases h
 | _::_,[],h=>by cases h
 | x::xs,y::cp,h=>by
   simp only [pE] at h;cases aa:sq x y with
   | false=>rw [aa] at h;cases h
   | true=>rw [aa] at h;rw [abb aa,Qc h]
theorem aba {E:Env} {x:V} {X Y:Value} (h:sq x x=true) (dh:Rel E x X) (ff:Rel E x Y):X=Y/\∀n,Instr.sameBits n X X=true:=by
 cases x<;>simp only [sq] at h<;>try (cases h;done)
 . simp only [Rel] at dh ff;subst dh ff;exact ⟨rfl,fun n=>by cases n<;>simp [Instr.sameBits]⟩
 . simp only [Rel] at dh ff;subst dh ff;exact ⟨rfl,fun n=>by cases n<;>simp [Instr.sameBits]⟩
 . simp only [Rel] at dh ff;subst dh ff;exact ⟨rfl,fun n=>by cases n<;>simp [Instr.sameBits,bytes_beq]⟩
theorem Qb {E:Env}:∀{xs:List V} {l eS:List Value},pE xs xs=true->bf E xs l->bf E xs eS->l=eS/\∀n,((l.zip l).all fun (x,y)=>Instr.sameBits n x y)=true
 | [],l,eS,_,aa,ad=>by simp only [bf] at aa ad;subst aa ad;exact ⟨rfl,fun _=>rfl⟩
 | x::xs,l,eS,h,aa,ad=>by
   obtain ⟨y,cp,rfl,bD,a2⟩:=aa;obtain ⟨tq,apn,rfl,b8,cg⟩:=ad;simp only [pE] at h;cases ao:sq x x with
   | false=>rw [ao] at h;cases h
   | true=>
     rw [ao] at h;obtain ⟨rfl,ak⟩:=aba ao bD b8;obtain ⟨rfl,al⟩:=Qb h a2 cg;exact ⟨rfl,fun n=>by simp only [List.zip_cons_cons,arh,ak,al,Bool.and_self]⟩
theorem amb {w:World} {E:Env} {da:TypeId}:xx P w E da (structEq P da):=by
 intro k br K nv b he aj a6;simp only [structEq] at he
 split at he
 case h_2=>cases he
 split at he
 case h_2=>cases he
 rename_i xs _ cp;cases az:(hk P 12 da).run (.agg xs) (.agg cp) with
 | none=>rw [az] at he;cases he
 | some c=>
   rw [az] at he;have aZ:=Ik 12 Op.maxDepth da _ _ K nv c (by decide) az aj a6 w;cases c with
   | false=>
     simp only [apA,aps] at he;subst he;exact ⟨aZ,fun h=>by cases h⟩
   | true=>
     simp only [apu] at he;cases af:pE xs cp with
     | false=>rw [af] at he;cases he
     | true=>
       rw [af] at he;simp only [apu,aps] at he;subst he;refine ⟨aZ,fun _=>?_⟩;have:=Qc af;subst this;simp only [Rel] at aj a6;obtain ⟨a,rfl,aa⟩:=aj;obtain ⟨bl,rfl,ad⟩:=a6;obtain ⟨e,q⟩:=Qb af aa ad;have cC:a=bl:=ard.1 e;subst cC;exact ⟨rfl,by show Instr.sameBits (9999+1) _ _=true;simp only [Instr.sameBits,beq_self_eq_true,ap6];exact q _⟩
theorem run_checkKey_plain {bj:TypeDesc} (av:kG bj=true) {t:TypeId} {w:World} (hu:(underlying t).run P w=.ok bj w) (b:Bool) (n:Nat) (v:Value):(Instr.checkKey b (n+1) t v).run P w=.ok () w:=by
 unfold Instr.checkKey;rw [Sem.run_bind,hu];cases bj<;>simp only [kG] at av<;>first
  | (cases av;done)
  | rfl
theorem abS {w:World} {E:Env} {cs:List V} {a:Array Value} (bt:bf E cs a.toList) (b:Bool) (n:Nat):∀(b5:List Field),D3 P cs b5=true->
 (do for f in b5 do
      if f.name≠ "_" then Instr.checkKey b (n+1) f.type (<-part f.type a f.offset):Sem Unit).run P w=.ok () w:=by
 intro b5
 induction b5 with
 | nil=>intro _;simp
 | cons f b5 bb=>
   intro h;simp only [D3] at h;cases aa:(qe P f.type f.offset).run cs with
   | none=>rw [aa] at h;cases h
   | some x=>
     rw [aa] at h;simp only at h;cases ad:ba P f.type with
     | none=>rw [ad] at h;cases h
     | some kr=>
       rw [ad] at h;simp only at h;cases aJ:kG kr.bj with
       | false=>rw [aJ] at h;cases h
       | true=>
         rw [aJ] at h;simp only [apu] at h;obtain ⟨X,dh,_⟩:=Cc bt aa w;have aB:=run_checkKey_plain (P:=P) aJ (fk ad w) b n X;have:=bb h;by_cases aV:f.name= "_"
         . simpa [aV] using this
         . simpa [aV,dh,aB] using this
theorem amc {t:TypeId} (h:lT P t=true) (w:World):∃b5,(underlying t).run P w=.ok (.struct b5) w:=by
 unfold lT at h;cases aE:ba P t with
 | none=>rw [aE] at h;cases h
 | some aO=>
   rw [aE] at h;simp only at h;have hu:=fk aE w;cases bV:aO.bj<;>rw [bV] at h<;>simp only at h<;>try (cases h;done)
   rw [bV] at hu;exact ⟨_,hu⟩
theorem alw {t:TypeId} {k:V} (aG:lg P t k=true) {E:Env} {K:Value} (aB:Rel E k K) {w:World} (b:Bool):(Instr.checkKey b 10000 t K).run P w=.ok () w:=by
 unfold lg at aG;cases aE:ba P t with
 | none=>rw [aE] at aG;cases aG
 | some aO=>
   rw [aE] at aG;simp only at aG;have hu:=fk aE w;cases bV:aO.bj<;>rw [bV] at aG<;>simp only at aG<;>try (cases aG;done)
   rename_i b5;rw [bV] at hu;cases k<;>simp only at aG<;>try (cases aG;done)
   rename_i cs;simp only [Rel] at aB;obtain ⟨a,rfl,bt⟩:=aB;show (Instr.checkKey b (9998+1+1) t (.agg a)).run P w=.ok () w;unfold Instr.checkKey;rw [Sem.run_bind,hu];have:=abS (P:=P) (w:=w) bt b 9998 b5.toList aG;simp only [Result.andThen_ok,Array.forIn_toList] at this ⊢;exact this
theorem aly {da:TypeId} {b5:Array Field} {w:World} (hu:(underlying da).run P w=.ok (.struct b5) w) {K:Value} {l:List MapEntry} {R:Option (Nat × Value)} (h:(Instr.findAsking da K l 0).run P w=.ok R w):
 (Instr.findKey da K l).run P w=.ok R w:=by
 cases l with
 | nil=>
   simp only [Instr.findAsking,Sem.run_pure] at h;cases h;simp [Instr.findKey,hu,Instr.findNow]
 | cons cI es=>
   have aV:Instr.findNow (.struct b5) K (cI::es) 0=none:=by simp [Instr.findNow,Instr.sameNow]
   simp [Instr.findKey,hu,aV,h]
structure zH (P:Program) (w:World) (E:Env) (da:TypeId) (e:dD) (K:Value):Prop where
 eq:xx P w E da e
 check:∀b,(Instr.checkKey b 10000 da K).run P w=.ok () w
 find:∀{l:List MapEntry} {R},(Instr.findAsking da K l 0).run P w=.ok R w->(Instr.findKey da K l).run P w=.ok R w
theorem Hz {ay:Fr} {E:Env} {h:ae} {w:World} (s:a8 ay E h w) {da:TypeId} (aE:iU P da=true) (K:Value):zH P w E da ⟨js h⟩ K:=by obtain ⟨T4,mT⟩:=akD aE w;exact ⟨akC s aE,fun b=>alv mT b K,fun q=>alx mT q⟩
theorem HA {w:World} {E:Env} {da:TypeId} (aE:lT P da=true) {k:V} (aG:lg P da k=true) {K:Value} (aB:Rel E k K):zH P w E da (structEq P da) K:=by obtain ⟨b5,mT⟩:=amc aE w;exact ⟨amb,fun b=>alw aG aB b,fun q=>aly mT q⟩
end
section
variable {P:Program}
theorem Kk {E:Env} {bj:TypeDesc} {k br:V} {K nv:Value} {b:Bool} (he:(lf bj).run k br=some b) (aj:Rel E k K) (a6:Rel E br nv):
 Instr.sameNow bj K nv=some b/\(b=true->nv=K/\∀n,Instr.sameBits n K K=true):=by
 cases bj<;>simp only [lf] at he<;>try (simp [dD.none] at he;done)
 case bool=>
  simp only [qQ] at he;cases k<;>simp only at he<;>try (cases he;done)
  cases br<;>simp only at he<;>try (cases he;done)
  simp only [Rel] at aj a6;subst aj a6;simp only [aps] at he;subst he;refine ⟨rfl,fun h=>?_⟩;rw [aqZ] at h;subst h;exact ⟨rfl,fun n=>by cases n<;>simp [Instr.sameBits]⟩
 case int jK=>
  simp only [j1] at he;obtain ⟨j,m,rfl,aa⟩:=jO he;clear he;obtain ⟨Fc,dj,rfl,ad⟩:=jO aa;clear aa;obtain ⟨aB,h⟩:=ev ad;clear ad;have:=tR aB;subst this;simp only [Rel] at aj a6;subst aj a6;simp only [aps,l5] at h;subst h;refine ⟨by simp [Instr.sameNow],fun h=>?_⟩;rw [aqZ] at h;subst h;exact ⟨rfl,fun n=>by cases n<;>simp [Instr.sameBits]⟩
 case string=>
  simp only [jh] at he;cases k<;>simp only at he<;>try (cases he;done)
  cases br<;>simp only at he<;>try (cases he;done)
  simp only [Rel] at aj a6;subst aj a6;simp only [aps,vp] at he;subst he;refine ⟨by simp only [Instr.sameNow,bytes_beq],fun h=>?_⟩;rw [aqZ] at h;subst h;exact ⟨rfl,fun n=>by cases n<;>simp [Instr.sameBits,bytes_beq]⟩
theorem run_checkKey {bj:TypeDesc} (av:kG bj=true) {t:TypeId} {w:World} (hu:(underlying t).run P w=.ok bj w) (b:Bool) (v:Value):(Instr.checkKey b 10000 t v).run P w=.ok () w:=by
 show (Instr.checkKey b (9999+1) t v).run P w=.ok () w;unfold Instr.checkKey;rw [Sem.run_bind,hu];cases bj<;>simp only [kG] at av<;>first
  | (cases av;done)
  | rfl
theorem run_findKey {bj:TypeDesc} {t:TypeId} {w:World} (hu:(underlying t).run P w=.ok bj w) {K:Value} {l:List MapEntry} {R:Option (Nat × Value)} (h:Instr.findNow bj K l 0=some R):
 (Instr.findKey t K l).run P w=.ok R w:=by
 simp only [Instr.findKey,Sem.run_bind,hu,Result.andThen_ok,h,Sem.run_pure]
theorem Qy {E:Env} {bj:TypeDesc} {k:V} {K:Value} (aB:Rel E k K):∀(es:List b3) (l:List MapEntry) (r:Option V) (i:Nat),j2 (lf bj) k es=some r->dm E es l->
 ∃R,Instr.findNow bj K l i=some R/\(match r with
  | none=>R=none
  | some v=>∃j Y,R=some (j,Y)/\Rel E v Y)
 | [],l,r,i,h,aC=>by simp only [dm] at aC;subst aC;simp only [j2,aps] at h;subst h;exact ⟨none,rfl,rfl⟩
 | m::ms,l,r,i,h,aC=>by
   obtain ⟨e,es,rfl,aa,ad,aJ,bu⟩:=aC;simp only [j2] at h;cases aZ:(lf bj).run k m.k with
   | none=>rw [aZ] at h;cases h
   | some b=>
     rw [aZ] at h;simp only at h;obtain ⟨ak,al⟩:=Kk aZ aB aa;cases b with
     | true=>
       simp only [apu,aps] at h;subst h;exact ⟨some (i,e.val),by simp only [Instr.findNow,ak],i,e.val,rfl,ad⟩
     | false=>
       simp only [apA] at h;obtain ⟨R,g1,g2⟩:=Qy aB ms es r (i+1) h bu;exact ⟨R,by simp only [Instr.findNow,ak,g1],g2⟩
theorem Ur {E:Env} {bj:TypeDesc} {k v:V} {K X:Value} (aB:Rel E k K) (bs:Rel E v X) (clock:Nat):∀(es:List b3) (l:List MapEntry) (r:List b3 × Bool) (i:Nat),kP (lf bj) k v clock es=some r->dm E es l->
 (r.2=true->Instr.findNow bj K l i=some none/\dm E r.1 (l++[⟨K,X,clock⟩]))/\
 (r.2=false->∃j e Y,Instr.findNow bj K l i=some (some (i+j,Y))/\l[j]? =some e/\Instr.sameBits 10000 e.key K=true/\dm E r.1 (l.modify j fun e=>{e with key:=K,val:=X}))
 | [],l,r,i,h,aC=>by simp only [dm] at aC;subst aC;simp only [kP,aps] at h;subst h;exact ⟨fun _=>⟨rfl,_,_,rfl,aB,bs,rfl,rfl⟩,fun h=>by cases h⟩
 | m::ms,l,r,i,h,aC=>by
   obtain ⟨e,es,rfl,aa,ad,aJ,bu⟩:=aC;simp only [kP] at h;cases aZ:(lf bj).run k m.k with
   | none=>rw [aZ] at h;cases h
   | some b=>
     rw [aZ] at h;simp only at h;obtain ⟨ak,al⟩:=Kk aZ aB aa;cases b with
     | true=>
       simp only [apu,aps] at h;subst h;obtain ⟨aI,bB⟩:=al rfl;refine ⟨fun h=>(by cases h),fun _=>⟨0,e,e.val,by simp only [Instr.findNow,ak,aqC],rfl,by rw [aI];exact bB _,?_⟩⟩;exact ⟨_,es,rfl,aB,bs,aJ,bu⟩
     | false=>
       simp only [apA] at h;cases af:kP (lf bj) k v clock ms with
       | none=>rw [af] at h;cases h
       | some a_=>
         rw [af] at h;simp only [aps] at h;subst h;obtain ⟨g1,g2⟩:=Ur aB bs clock ms es a_ (i+1) af bu;refine ⟨fun h=>?_,fun h=>?_⟩
         . obtain ⟨bD,a2⟩:=g1 h;exact ⟨by simp only [Instr.findNow,ak,bD],⟨e,es++[⟨K,X,clock⟩],rfl,aa,ad,aJ,a2⟩⟩
         . obtain ⟨j,cC,Y,bD,a2,a3,a4⟩:=g2 h;exact ⟨j+1,cC,Y,by simp only [Instr.findNow,ak,bD];congr 3;omega,by simpa using a2,a3,e,_,rfl,aa,ad,aJ,a4⟩
theorem KF {ay:Fr} {E:Env} {h:ae} {w:World} (s:a8 ay E h w) {x:V} {X:Value} {es:List b3} (he:qa h x=some es) (aj:Rel E x X):
 (X=.map none/\es=[])\/∃r a clock,X=.map (some r)/\(getObj r).run P w=.ok (.map a clock) w/\dm E es a.toList:=by
 cases x<;>simp only [qa] at he<;>try (cases he;done)
 . simp only [Rel] at aj;exact .inl ⟨aj,by simpa using he.symm⟩
 . rename_i b;simp only [Rel] at aj;obtain ⟨p,af,rfl⟩:=aj;have ah:=s.at af;cases aG:h.get b<;>rw [aG] at he<;>simp only [b1.hx] at he<;>try (cases he;done)
   simp only [aps] at he;subst he;rw [aG] at ah;obtain ⟨q,a,aa,_,aJ,bu⟩:=ah;rw [af] at aa;cases aa;exact .inr ⟨p.aW,a,_,rfl,by simp only [getObj,Sem.run,aJ];rfl,bu⟩
theorem Qv {bj:TypeDesc} {K:Value}:∀{l:List MapEntry} {i:Nat},(∀e ∈ l,Instr.sameNow bj K e.key=some false)->Instr.findNow bj K l i=some none
 | [],_,_=>rfl
 | e::es,i,h=>by simp only [Instr.findNow,h e (by simp)];exact Qv fun cC ee=>h cC (by simp [ee])
theorem Qw {bj:TypeDesc} {K:Value}:∀{l:List MapEntry} {i:Nat},(∀e ∈ l,∃b,Instr.sameNow bj K e.key=some b)->(∃e ∈ l,Instr.sameNow bj K e.key=some true)->
 ∃j,∃e ∈ l,Instr.sameNow bj K e.key=some true/\Instr.findNow bj K l i=some (some (j,e.val))
 | [],_,_,h=>by obtain ⟨e,he,_⟩:=h;simp at he
 | e::es,i,aa,ad=>by
   obtain ⟨b,ah⟩:=aa e (by simp);cases b with
   | true=>exact ⟨i,e,by simp,ah,by simp only [Instr.findNow,ah]⟩
   | false=>
     obtain ⟨cC,ee,aE⟩:=ad;simp only [apJ] at ee;rcases ee with rfl | ee
     . rw [ah] at aE;cases aE
     . obtain ⟨j,aS,ak,al,aI⟩:=Qw (i:=i+1) (fun x aj=>aa x (by simp [aj])) ⟨cC,ee,aE⟩;exact ⟨j,aS,by simp [ak],al,by simp only [Instr.findNow,ah,aI]⟩
theorem Qx {E:Env} {bj:TypeDesc} {k:V} {K:Value} (aB:Rel E k K):∀(es:List b3) (l:List MapEntry) (r:Option V),mN (lf bj) k es=some r->ix E es l->
 (∀e ∈ l,∃b,Instr.sameNow bj K e.key=some b)/\(match r with
  | none=>∀e ∈ l,Instr.sameNow bj K e.key=some false
  | some v=>(∃e ∈ l,Instr.sameNow bj K e.key=some true)/\∀e ∈ l,Instr.sameNow bj K e.key=some true->Rel E v e.val)
 | [],l,r,h,aC=>by simp only [ix] at aC;subst aC;simp only [mN,aps] at h;subst h;exact ⟨fun e he=>by simp at he,fun e he=>by simp at he⟩
 | m::ms,l,r,h,aC=>by
   obtain ⟨e,es,rfl,aa,ad,bu⟩:=aC;simp only [mN] at h;cases av:mN (lf bj) k ms with
   | none=>rw [av] at h;cases h
   | some a_=>
     rw [av] at h;simp only at h;obtain ⟨g1,g2⟩:=Qx aB ms es a_ av bu;cases aZ:(lf bj).run k m.k with
     | none=>rw [aZ] at h;cases h
     | some b=>
       rw [aZ] at h;simp only at h;obtain ⟨ak,_⟩:=Kk aZ aB aa;have I1:∀cC ∈ e::es,∃b,Instr.sameNow bj K cC.key=some b:=by
        intro cC ee;rcases apJ.1 ee with rfl | ee
        . exact ⟨b,ak⟩
        . exact g1 cC ee
       refine ⟨I1,?_⟩;cases b with
       | true=>
         simp only [apu] at h;cases a_ with
         | some _=>cases h
         | none=>
           simp only [aps] at h;subst h;refine ⟨⟨e,by simp,ak⟩,fun cC ee aE=>?_⟩;rcases apJ.1 ee with rfl | ee
           . exact ad
           . have:=g2 cC ee;rw [aE] at this;cases this
       | false=>
         simp only [apA,aps] at h;subst h;cases a_ with
         | none=>
           intro cC ee;rcases apJ.1 ee with rfl | ee
           . exact ak
           . exact g2 cC ee
         | some v=>
           obtain ⟨⟨dw,dz,fo⟩,y3⟩:=g2;refine ⟨⟨dw,by simp [dz],fo⟩,fun cC ee aE=>?_⟩;rcases apJ.1 ee with rfl | ee
           . rw [ak] at aE;cases aE
           . exact y3 cC ee aE
theorem abH {E:Env} {bj:TypeDesc} {k:V} {K:Value} (aB:Rel E k K) {es:List b3} {l a:List MapEntry} {r:Option V} (h:mN (lf bj) k es=some r) (aC:ix E es l) (af:l.Perm a):
 ∃R,Instr.findNow bj K a 0=some R/\(match r with
  | none=>R=none
  | some v=>∃j Y,R=some (j,Y)/\Rel E v Y):=by
 obtain ⟨aa,ad⟩:=Qx aB es l r h aC;have hm:∀e,e ∈ a↔e ∈ l:=fun e=>af.mem_iff.symm;cases r with
 | none=>exact ⟨none,Qv fun e he=>ad e ((hm e).1 he),rfl⟩
 | some v=>
   obtain ⟨⟨dw,dz,fo⟩,y3⟩:=ad;obtain ⟨j,e,ak,al,aI⟩:=Qw (i:=0) (fun e he=>aa e ((hm e).1 he)) ⟨dw,(hm dw).2 dz,fo⟩;exact ⟨_,aI,j,e.val,rfl,y3 e ((hm e).1 ak) al⟩
theorem aiG {e:dD} {z:V} {ok:Bool} {h:ae} {x k v:V} (he:gk e z ok h x k=some v):
 ha e z ok h x k=some v\/∃b es r,x=.map b/\h.get b=.ht es/\mN e k es=some r/\v=(match r with
  | some u=>bif ok then .tuple [u,.bool true] else u
  | none=>bif ok then .tuple [z,.bool false] else z):=by
 unfold gk at he;cases x<;>simp only at he<;>try (exact .inl he)
 rename_i b;cases aG:h.get b<;>rw [aG] at he<;>simp only at he<;>try (exact .inl he)
 rename_i es;cases av:mN e k es with
 | none=>rw [av] at he;cases he
 | some r=>
   rw [av] at he;refine .inr ⟨b,es,r,rfl,aG,av,?_⟩;cases r<;>simp only [aps] at he<;>exact he.symm
theorem aiF {ay:Fr} {E:Env} {h:ae} {w:World} (s:a8 ay E h w) {t:TypeId} {ok:Bool} {x k v:V} {X K:Value} (aj:Rel E x X) (aB:Rel E k K) (he:(Fo P t ok).run h x k=some v):
 ∃Z,(Instr.lookup t X K ok).run P w=.ok Z w/\Rel E v Z:=by
 unfold Fo at he;cases aE:ba P t with
 | none=>rw [aE] at he;cases he
 | some aO=>
   rw [aE] at he;simp only at he;have hu:=fk aE w;cases bV:aO.bj<;>rw [bV] at he<;>simp only at he<;>try (cases he;done)
   rename_i da kp;rw [bV] at hu;cases mS:ba P da with
   | none=>rw [mS] at he;cases he
   | some fY=>
     rw [mS] at he;simp only at he;cases het:ba P kp with
     | none=>rw [het] at he;cases he
     | some bd=>
       rw [het] at he;simp only at he;cases bk:bd.zero with
       | none=>rw [bk] at he;cases he
       | some z=>
         rw [bk] at he;simp only at he;cases av:kG fY.bj with
         | false=>
           rw [av] at he;simp only [apA] at he;have tY:∃e,zH P w E da e K/\ha e z ok h x k=some v:=by
            cases pW:iU P da with
            | true=>
              rw [pW] at he;exact ⟨_,Hz s pW K,he⟩
            | false=>
              rw [pW] at he;simp only [apA] at he;cases cz:lT P da with
              | false=>rw [cz] at he;cases he
              | true=>
                rw [cz] at he;simp only [apu] at he;obtain ⟨aG,he⟩:=ev he;exact ⟨_,HA cz aG aB,he⟩
           clear he;obtain ⟨e,ask,he⟩:=tY;obtain ⟨u6,mW,mf,_⟩:=zm (P:=P) het bk E w;simp only [ha] at he;cases hm:qa h x with
           | none=>rw [hm] at he;cases he
           | some es=>
             rw [hm] at he;simp only at he;cases vR:j2 e k es with
             | none=>rw [vR] at he;cases he
             | some r=>
               rw [vR] at he;simp only at he;have main:∀(l:List MapEntry),dm E es l->∃R,(Instr.findKey da K l).run P w=.ok R w/\
                ((R=none/\Rel E v (if ok=true then .tuple #[u6,.bool false] else u6))\/∃j Y,R=some (j,Y)/\Rel E v (if ok=true then .tuple #[Y,.bool true] else Y)):=by
                intro l aA;obtain ⟨R,g1,g2⟩:=Qt ask.eq aB es l r 0 vR aA;refine ⟨R,ask.find g1,?_⟩;cases r with
                | none=>
                  simp only at g2 he;refine .inl ⟨g2,?_⟩;simp only [aps] at he;subst he;cases ok
                  . exact mf
                  . simp only [apu,ap3,Rel,bf];exact ⟨_,rfl,_,_,rfl,mf,_,_,rfl,rfl,rfl⟩
                | some u=>
                  simp only at g2 he;obtain ⟨j,Y,cQ,ff⟩:=g2;refine .inr ⟨j,Y,cQ,?_⟩;simp only [aps] at he;subst he;cases ok
                  . exact ff
                  . simp only [apu,ap3,Rel,bf];exact ⟨_,rfl,_,_,rfl,ff,_,_,rfl,rfl,rfl⟩
               rcases KF (P:=P) s hm aj with ⟨rfl,rfl⟩ | ⟨bh,a,clock,rfl,cm,Bh⟩
               . obtain ⟨R,g1,g2⟩:=main [] rfl;have jk:=ask.check true;rcases g2 with ⟨rfl,g3⟩ | ⟨j,Y,rfl,g3⟩
                 all_goals
                  refine ⟨_,?_,g3⟩;simp only [Instr.lookup,Sem.run_bind,hu,Result.andThen_ok,Sem.run_pure];have aK:(#[]:Array MapEntry).isEmpty=true:=rfl;rw [aK,jk,Result.andThen_ok,g1,Result.andThen_ok];simp only [Sem.run_bind,mW,Result.andThen_ok,Sem.run_pure]
               . obtain ⟨R,g1,g2⟩:=main a.toList Bh;have jk:=ask.check a.isEmpty;rcases g2 with ⟨rfl,g3⟩ | ⟨j,Y,rfl,g3⟩
                 all_goals
                  refine ⟨_,?_,g3⟩;simp only [Instr.lookup,Sem.run_bind,hu,Result.andThen_ok,Sem.run_pure,cm];rw [jk,Result.andThen_ok,g1,Result.andThen_ok];simp only [Sem.run_bind,mW,Result.andThen_ok,Sem.run_pure]
         | true=>
           rw [av] at he;simp only [apu] at he;obtain ⟨u6,mW,mf,_⟩:=zm (P:=P) het bk E w;have mT:=fk mS w;rcases aiG he with he | ⟨b,es,r,rfl,aG,Ru,rfl⟩
           case inr=>
            simp only [Rel] at aj;obtain ⟨p,af,rfl⟩:=aj;have ah:=s.at af;rw [aG] at ah;obtain ⟨p',a,c,l,gZ,_,a',aeS,J1⟩:=ah;rw [af] at gZ;cases gZ;obtain ⟨R,g1,g2⟩:=abH aB Ru aeS J1;have cm:(getObj p.aW).run P w=.ok (.map a c) w:=by simp only [getObj,Sem.run,a']
            have jk:=run_checkKey (P:=P) av mT a.isEmpty K;have Ea:=run_findKey mT g1;cases r with
            | none=>
              simp only at g2;subst g2;refine ⟨if ok=true then .tuple #[u6,.bool false] else u6,?_,?_⟩
              . simp only [Instr.lookup,Sem.run_bind,hu,Result.andThen_ok,Sem.run_pure,cm];rw [jk,Result.andThen_ok,Ea,Result.andThen_ok];simp only [Sem.run_bind,mW,Result.andThen_ok,Sem.run_pure]
              . cases ok
                . exact mf
                . simp only [apu,ap3,Rel,bf];exact ⟨_,rfl,_,_,rfl,mf,_,_,rfl,rfl,rfl⟩
            | some u=>
              simp only at g2;obtain ⟨j,Y,rfl,ff⟩:=g2;refine ⟨if ok=true then .tuple #[Y,.bool true] else Y,?_,?_⟩
              . simp only [Instr.lookup,Sem.run_bind,hu,Result.andThen_ok,Sem.run_pure,cm];rw [jk,Result.andThen_ok,Ea,Result.andThen_ok];simp only [Sem.run_bind,Sem.run_pure,Result.andThen_ok]
              . cases ok
                . exact ff
                . simp only [apu,ap3,Rel,bf];exact ⟨_,rfl,_,_,rfl,ff,_,_,rfl,rfl,rfl⟩
           simp only [ha] at he;cases hm:qa h x with
           | none=>rw [hm] at he;cases he
           | some es=>
             rw [hm] at he;simp only at he;cases vR:j2 (lf fY.bj) k es with
             | none=>rw [vR] at he;cases he
             | some r=>
               rw [vR] at he;simp only at he;have main:∀(l:List MapEntry),dm E es l->∃R,(Instr.findKey da K l).run P w=.ok R w/\
                ((R=none/\Rel E v (if ok=true then .tuple #[u6,.bool false] else u6))\/∃j Y,R=some (j,Y)/\Rel E v (if ok=true then .tuple #[Y,.bool true] else Y)):=by
                intro l aA;obtain ⟨R,g1,g2⟩:=Qy aB es l r 0 vR aA;refine ⟨R,run_findKey mT g1,?_⟩;cases r with
                | none=>
                  simp only at g2 he;refine .inl ⟨g2,?_⟩;simp only [aps] at he;subst he;cases ok
                  . exact mf
                  . simp only [apu,ap3,Rel,bf];exact ⟨_,rfl,_,_,rfl,mf,_,_,rfl,rfl,rfl⟩
                | some u=>
                  simp only at g2 he;obtain ⟨j,Y,cQ,ff⟩:=g2;refine .inr ⟨j,Y,cQ,?_⟩;simp only [aps] at he;subst he;cases ok
                  . exact ff
                  . simp only [apu,ap3,Rel,bf];exact ⟨_,rfl,_,_,rfl,ff,_,_,rfl,rfl,rfl⟩
               rcases KF (P:=P) s hm aj with ⟨rfl,rfl⟩ | ⟨bh,a,clock,rfl,cm,Bh⟩
               . obtain ⟨R,g1,g2⟩:=main [] rfl;have jk:=run_checkKey (P:=P) av mT true K;rcases g2 with ⟨rfl,g3⟩ | ⟨j,Y,rfl,g3⟩
                 all_goals
                  refine ⟨_,?_,g3⟩;simp only [Instr.lookup,Sem.run_bind,hu,Result.andThen_ok,Sem.run_pure];have aK:(#[]:Array MapEntry).isEmpty=true:=rfl;rw [aK,jk,Result.andThen_ok,g1,Result.andThen_ok];simp only [Sem.run_bind,mW,Result.andThen_ok,Sem.run_pure]
               . obtain ⟨R,g1,g2⟩:=main a.toList Bh;have jk:=run_checkKey (P:=P) av mT a.isEmpty K;rcases g2 with ⟨rfl,g3⟩ | ⟨j,Y,rfl,g3⟩
                 all_goals
                  refine ⟨_,?_,g3⟩;simp only [Instr.lookup,Sem.run_bind,hu,Result.andThen_ok,Sem.run_pure,cm];rw [jk,Result.andThen_ok,g1,Result.andThen_ok];simp only [Sem.run_bind,mW,Result.andThen_ok,Sem.run_pure]
theorem VJ {ay:Fr} {E:Env} {h ab:ae} {w:World} (s:a8 ay E h w) {t:TypeId} {x k v:V} {X K Y:Value} (aj:Rel E x X) (aB:Rel E k K) (bs:Rel E v Y) (he:(pa P t).run h x k v=some ab):
 ∃w',(Instr.mapUpdate t X K Y).run P w=.ok () w'/\a8 ay E ab w':=by
 unfold pa at he;cases aE:ba P t with
 | none=>rw [aE] at he;cases he
 | some aO=>
   rw [aE] at he;simp only at he;have hu:=fk aE w;cases bV:aO.bj<;>rw [bV] at he<;>simp only at he<;>try (cases he;done)
   rename_i da kp;rw [bV] at hu;cases mS:ba P da with
   | none=>rw [mS] at he;cases he
   | some fY=>
     rw [mS] at he;simp only at he;cases av:kG fY.bj with
     | false=>
       rw [av] at he;simp only [apA] at he;have tY:∃e,zH P w E da e K/\jT e h x k v=some ab:=by
        cases pW:iU P da with
        | true=>
          rw [pW] at he;exact ⟨_,Hz s pW K,he⟩
        | false=>
          rw [pW] at he;simp only [apA] at he;cases cz:lT P da with
          | false=>rw [cz] at he;cases he
          | true=>
            rw [cz] at he;simp only [apu] at he;obtain ⟨aG,he⟩:=ev he;exact ⟨_,HA cz aG aB,he⟩
       clear he;obtain ⟨e,ask,he⟩:=tY;cases x<;>simp only [jT] at he<;>try (cases he;done)
       rename_i b;simp only [Rel] at aj;obtain ⟨p,af,rfl⟩:=aj;have ah:=s.at af;cases aG:h.get b<;>rw [aG] at he<;>simp only [b1.hx] at he<;>try (cases he;done)
       rename_i es clock;rw [aG] at ah;obtain ⟨q,a,aa,cD,aJ,bu⟩:=ah;rw [af] at aa;cases aa;cases wb:kP e k v clock es with
       | none=>rw [wb] at he;cases he
       | some r=>
         rw [wb] at he;simp only [aps] at he;subst he;have cm:(getObj p.aW).run P w=.ok (.map a clock) w:=by simp only [getObj,Sem.run,aJ]
         have jk:=ask.check false;have kE:=(apt.1 aJ).1;have AD:∀(bl:Array MapEntry) (fD:Nat),dm E r.1 bl.toList->fD=(bif r.2 then clock+1 else clock)->
          ∃w',(setObj p.aW (.map bl fD)).run P w=.ok () w'/\a8 ay E (h.set b (.mp r.1 (bif r.2 then clock+1 else clock))) w':=by
          intro bl fD hm ao;refine ⟨{w with heap:=w.heap.setIfInBounds p.aW (.map bl fD)},by simp only [setObj,Sem.run,aJ],s.set (p:=p) (by rw [aG];rfl) af cD (by simp) (fun j bp=>?_) rfl rfl rfl (fun _ _ _ e=>by cases e) ?_⟩
          . simp only [apI];rw [apw (fun e=>bp e.symm)]
          . exact ⟨p,bl,af,cD,by simp [kE,ao],hm⟩
         obtain ⟨g1,g2⟩:=Uo ask.eq aB bs clock es a.toList r 0 wb bu;cases lH:r.2 with
         | true=>
           obtain ⟨bD,a2⟩:=g1 lH;obtain ⟨w',d1,d2⟩:=AD (a.push ⟨K,Y,clock⟩) (clock+1) (by simpa using a2) (by rw [lH];rfl);rw [lH] at d2;refine ⟨w',?_,d2⟩;simp only [Instr.mapUpdate,Sem.run_bind,hu,Result.andThen_ok,cm,jk,ask.find bD,d1]
         | false=>
           obtain ⟨j,cI,Xj,bD,a2,a3,a4⟩:=g2 lH;obtain ⟨w',d1,d2⟩:=AD (a.modify j fun cI=>{cI with key:=K,val:=Y}) clock (by simpa using a4) (by rw [lH];rfl);rw [lH] at d2;refine ⟨w',?_,d2⟩;rw [apW] at bD;have aK:a[j]? =some cI:=by simpa using a2
           simp only [Instr.mapUpdate,Sem.run_bind,hu,Result.andThen_ok,cm,jk,ask.find bD,aK,Option.map,Option.getD,Instr.keyThatStays,a3,ap3,Sem.run_pure,d1]
     | true=>
       rw [av] at he;simp only [apu] at he;have mT:=fk mS w;cases x<;>simp only [jT] at he<;>try (cases he;done)
       rename_i b;simp only [Rel] at aj;obtain ⟨p,af,rfl⟩:=aj;have ah:=s.at af;cases aG:h.get b<;>rw [aG] at he<;>simp only [b1.hx] at he<;>try (cases he;done)
       rename_i es clock;rw [aG] at ah;obtain ⟨q,a,aa,cD,aJ,bu⟩:=ah;rw [af] at aa;cases aa;cases wb:kP (lf fY.bj) k v clock es with
       | none=>rw [wb] at he;cases he
       | some r=>
         rw [wb] at he;simp only [aps] at he;subst he;have cm:(getObj p.aW).run P w=.ok (.map a clock) w:=by simp only [getObj,Sem.run,aJ]
         have jk:=run_checkKey (P:=P) av mT false K;have kE:=(apt.1 aJ).1;have done:∀(bl:Array MapEntry) (fD:Nat),dm E r.1 bl.toList->fD=(bif r.2 then clock+1 else clock)->
          ∃w',(setObj p.aW (.map bl fD)).run P w=.ok () w'/\a8 ay E (h.set b (.mp r.1 (bif r.2 then clock+1 else clock))) w':=by
          intro bl fD hm ao;refine ⟨{w with heap:=w.heap.setIfInBounds p.aW (.map bl fD)},by simp only [setObj,Sem.run,aJ],s.set (p:=p) (by rw [aG];rfl) af cD (by simp) (fun j bp=>?_) rfl rfl rfl (fun _ _ _ e=>by cases e) ?_⟩
          . simp only [apI];rw [apw (fun e=>bp e.symm)]
          . exact ⟨p,bl,af,cD,by simp [kE,ao],hm⟩
         obtain ⟨g1,g2⟩:=Ur aB bs clock es a.toList r 0 wb bu;cases lH:r.2 with
         | true=>
           obtain ⟨bD,a2⟩:=g1 lH;obtain ⟨w',d1,d2⟩:=done (a.push ⟨K,Y,clock⟩) (clock+1) (by simpa using a2) (by rw [lH];rfl);rw [lH] at d2;refine ⟨w',?_,d2⟩;simp only [Instr.mapUpdate,Sem.run_bind,hu,Result.andThen_ok,cm,jk,run_findKey mT bD,d1]
         | false=>
           obtain ⟨j,e,Xj,bD,a2,a3,a4⟩:=g2 lH;obtain ⟨w',d1,d2⟩:=done (a.modify j fun e=>{e with key:=K,val:=Y}) clock (by simpa using a4) (by rw [lH];rfl);rw [lH] at d2;refine ⟨w',?_,d2⟩;rw [apW] at bD;have aK:a[j]? =some e:=by simpa using a2
           simp only [Instr.mapUpdate,Sem.run_bind,hu,Result.andThen_ok,cm,jk,run_findKey mT bD,aK,Option.map,Option.getD,Instr.keyThatStays,a3,ap3,Sem.run_pure,d1]
theorem Tv {ay:Fr} {E:Env} {h ab:ae} {w:World} (s:a8 ay E h w) {v:V} (he:sX h=.val v ab):c' ay P E w (do pure (.map (some (<-newObj (.map #[] 0))))) v ab:=by
 unfold sX at he;simp only [a7.val.injEq] at he;obtain ⟨rfl,rfl⟩:=he;have dp:=s.fresh h.next (apv _)
 have dF:E.put (aw h.next) ⟨w.heap.size,0,0⟩ (aw h.next)=some ⟨w.heap.size,0,0⟩:=by unfold Env.put;rw [apz rfl]
 refine ⟨.map (some w.heap.size),{w with heap:=w.heap.push (.map #[] 0)},_,?_,Env.mm (p:=⟨w.heap.size,0,0⟩) dp,?_,s.alloc 0 ?_⟩
 . simp only [Sem.run_bind,run_newObj,Result.andThen_ok,Sem.run_pure]
 . simp only [Rel];exact ⟨_,dF,rfl⟩
 . exact ⟨_,#[],dF,s.frame.size,by simp,rfl⟩
theorem aiL {ay:Fr} {E:Env} {h ab:ae} {w:World} (s:a8 ay E h w) {t:TypeId} {x:Option V} {X:Option Value} {v:V} (aj:hM E x X) (he:yR P t x h=.val v ab):c' ay P E w (Instr.makeMap t X) v ab:=by
 unfold yR at he;cases aE:ba P t with
 | none=>rw [aE] at he;cases he
 | some aO=>
   rw [aE] at he;simp only at he;have hu:=fk aE;cases ah:Nat.beq (eT aO.bj) 3 with
   | false=>rw [ah] at he;cases he
   | true=>
     rw [ah] at he;simp only [apu] at he;cases x with
     | none=>
       have:X=none:=by cases X with | none=>rfl | some _=>simp [hM] at aj
       subst this;simp only [rn] at he;have:=Tv (P:=P) s he;exact this
     | some u=>
       simp only [rn] at he;obtain ⟨cT,n,rfl,aa⟩:=s4 he;obtain ⟨Y,rfl,ff⟩:∃Y,X=some Y/\Rel E (.int cT n) Y:=by
        cases X with
        | none=>simp [hM] at aj
        | some Y=>simp only [hM] at aj;obtain ⟨M_,aa,ad⟩:=aj;cases aa;exact ⟨_,rfl,ad⟩
       have:=ff.iC;subst this;obtain ⟨Z,w',ar,ak,al⟩:=Tv (P:=P) s aa;refine ⟨Z,w',ar,?_,al⟩;cases bV:aO.bj<;>rw [bV] at ah<;>simp [eT] at ah;have hu:=hu w;rw [bV] at hu;simp only [Instr.makeMap,Sem.run_bind,hu,Result.andThen_ok,asInt,Sem.run_pure];exact ak
theorem ail {ay:Fr} {E:Env} {h ab:ae} {w:World} (s:a8 ay E h w) {t:TypeId} {aO:nC} (aE:ba P t=some aO) (hm:uy aO.bj=true) {x v:V} {X:Value} (aj:Rel E x X) (ty:TypeId) (rest:List TypeId)
 (he:BQ [x] h=.val v ab):c' ay P E w (Builtin.len_ (t::rest).toArray ty #[X]) v ab:=by
 simp only [BQ] at he;cases aZ:qa h x with
 | none=>rw [aZ] at he;cases he
 | some es=>
   rw [aZ] at he;simp only [a7.val.injEq] at he;obtain ⟨rfl,rfl⟩:=he;have hu:=fk aE w;cases bV:aO.bj<;>rw [bV] at hm<;>simp [uy] at hm;rw [bV] at hu;rcases KF (P:=P) s aZ aj with ⟨rfl,rfl⟩ | ⟨bh,a,clock,rfl,cm,Bh⟩
   . refine c'.plain (Z:=goInt 0) s ?_ (by simp [Rel,goInt]);simp [Builtin.len_,hu]
   . have hlen:∀(ms:List b3) (l:List MapEntry),dm E ms l->l.length=ms.length:=by
      intro ms
      induction ms with
      | nil=>intro l h;simp only [dm] at h;subst h;rfl
      | cons m ms bb=>intro l h;obtain ⟨e,es,rfl,_,_,_,bu⟩:=h;simp [bb _ bu]
     refine c'.plain (Z:=goInt a.size) s ?_ ?_
     . simp [Builtin.len_,hu,cm]
     . have:=hlen _ _ Bh;simp only [Array.length_toList] at this;simp [Rel,goInt,this]
end
section
variable {P:Program}
theorem Qs {E:Env} {v:V} {Y:Value} (bs:Rel E v Y) {n:Nat}:∀(es:List b3) (l:List MapEntry) (r:List b3),oF n v es=some r->dm E es l->
 ∃j,l.findIdx? (fun e=>(e.born:Int) == (n:Int))=some j/\dm E r (l.modify j fun e=>{e with val:=Y})
 | [],l,r,h,aC=>by cases h
 | m::ms,l,r,h,aC=>by
   obtain ⟨e,es,rfl,aa,ad,aJ,bu⟩:=aC;simp only [oF] at h;cases ah:Nat.beq m.born n with
   | true=>
     rw [ah] at h;simp only [apu,aps] at h;subst h;have aV:=aqg ah;refine ⟨0,by simp [List.findIdx?_cons,aJ,aV],?_⟩;exact ⟨_,es,rfl,aa,bs,aJ,bu⟩
   | false=>
     rw [ah] at h;simp only [apA] at h;cases av:oF n v ms with
     | none=>rw [av] at h;cases h
     | some a_=>
       rw [av] at h;simp only [aps] at h;subst h;obtain ⟨j,g1,g2⟩:=Qs bs ms es a_ av bu;have c4:¬((e.born:Int) == (n:Int))=true:=by
        rw [aJ];intro az;have rb:(m.born:Int)=(n:Int):=by simpa using az
        have aet:m.born=n:=by omega
        rw [aet,ari] at ah;cases ah
       refine ⟨j+1,by simp only [List.findIdx?_cons,c4];simp [g1],⟨e,_,by simp [List.modify],aa,ad,aJ,g2⟩⟩
theorem aa9 {ay:Fr} {E:Env} {h ab:ae} {w:World} (s:a8 ay E h w) {t:TypeId} {x st v:V} {X S Y:Value} (aj:Rel E x X) (cz:Rel E st S) (bs:Rel E v Y) (he:qP h x st v=some ab):
 ∃w',(Instr.entryStore t X S Y).run P w=.ok () w'/\a8 ay E ab w':=by
 unfold qP at he
 split at he
 case h_2=>cases he
 rename_i b
 split at he
 case h_2=>cases he
 rename_i cT m
 split at he
 case h_2=>cases he
 rename_i n;simp only [Rel] at aj cz;obtain ⟨p,af,rfl⟩:=aj;subst cz;have ah:=s.at af;cases aG:h.get b<;>rw [aG] at he<;>simp only [b1.hx] at he<;>try (cases he;done)
 rename_i es clock;rw [aG] at ah;obtain ⟨q,a,aa,cD,aJ,bu⟩:=ah;rw [af] at aa;cases aa;cases av:oF n v es with
 | none=>rw [av] at he;cases he
 | some r=>
   rw [av] at he;simp only [aps] at he;subst he;obtain ⟨j,g1,g2⟩:=Qs bs es a.toList r av bu;have cm:(getObj p.aW).run P w=.ok (.map a clock) w:=by simp only [getObj,Sem.run,aJ]
   have kE:=(apt.1 aJ).1;have Ea:a.findIdx? (fun e=>(e.born:Int) == (n:Int))=some j:=by rw [<-g1];cases a with | mk yJ=>simp
   have bt:(asInt (.int cT (Int.ofNat n))).run P w=.ok (n:Int) w:=by simp [asInt,asIntOf]
   refine ⟨{w with heap:=w.heap.setIfInBounds p.aW (.map (a.modify j fun e=>{e with val:=Y}) clock)},?_,s.set (p:=p) (by rw [aG];rfl) af cD (by simp) (fun j bp=>?_) rfl rfl rfl (fun _ _ _ e=>by cases e) ?_⟩
   . simp only [Instr.entryStore,Sem.run_bind,cm,Result.andThen_ok,bt,Ea,setObj,Sem.run,aJ]
   . simp only [apI];rw [apw (fun e=>bp e.symm)]
   . exact ⟨p,a.modify j fun e=>{e with val:=Y},af,cD,by simp [kE],by rw [Array.toList_modify];exact g2⟩
theorem Qu {w:World} {E:Env} {da:TypeId} {e:dD} (iy:xx P w E da e) {k:V} {K:Value} (aB:Rel E k K):∀(es:List b3) (l:List MapEntry) (r:Option b3) (i:Nat),nI e k es=some r->dm E es l->
 (r=none->(Instr.findAsking da K l i).run P w=.ok none w)/\
 (∀m,r=some m->∃j cI,(Instr.findAsking da K l i).run P w=.ok (some (i+j,cI.val)) w/\l[j]? =some cI/\cI.key=K/\Rel E m.v cI.val/\cI.born=m.born/\Instr.sameBits 10000 K K=true/\dm E es (l.modify j fun cI=>{cI with key:=K}))
 | [],l,r,i,h,aC=>by simp only [dm] at aC;subst aC;simp only [nI,aps] at h;subst h;exact ⟨fun _=>rfl,fun m hm=>by cases hm⟩
 | m::ms,l,r,i,h,aC=>by
   obtain ⟨cI,es,rfl,aa,ad,aJ,bu⟩:=aC;simp only [nI] at h;cases aZ:e.run k m.k with
   | none=>rw [aZ] at h;cases h
   | some b=>
     rw [aZ] at h;simp only at h;obtain ⟨ak,al⟩:=iy _ _ _ _ _ aZ aB aa;cases b with
     | true=>
       simp only [apu,aps] at h;subst h;obtain ⟨aI,bB⟩:=al rfl;refine ⟨fun h=>(by cases h),fun dj hm=>?_⟩;cases hm;exact ⟨0,cI,by simp [Instr.findAsking,ak],rfl,aI,ad,aJ,bB,⟨_,es,rfl,by rw [<-aI];exact aa,ad,aJ,bu⟩⟩
     | false=>
       simp only [apA] at h;obtain ⟨g1,g2⟩:=Qu iy aB ms es r (i+1) h bu;refine ⟨fun h=>by simp [Instr.findAsking,ak,g1 h],fun dj hm=>?_⟩;obtain ⟨j,aa7,bD,a2,a3,a4,a5,hT,pr⟩:=g2 dj hm;exact ⟨j+1,aa7,by simp [Instr.findAsking,ak,bD];omega,by simpa using a2,a3,a4,a5,hT,⟨cI,_,rfl,aa,ad,aJ,pr⟩⟩
theorem Tg {ay:Fr} {E:Env} {h ab:ae} {w:World} (s:a8 ay E h w) {t da kp:TypeId} (hu:(underlying t).run P w=.ok (.map da kp) w) {e:dD} {z:V} {Z:Value} (bk:(zeroValue kp).run P w=.ok Z w) (mf:Rel E z Z)
 {x k v:V} {X K:Value} (aj:Rel E x X) (aB:Rel E k K) (ask:zH P w E da e K) (he:sU e z h x k=some (v,ab)):c' ay P E w (Instr.mapEntry t X K) v ab:=by
 unfold sU at he
 split at he
 case h_2=>cases he
 rename_i b;simp only [Rel] at aj;obtain ⟨p,af,rfl⟩:=aj;have ah:=s.at af;cases aG:h.get b<;>rw [aG] at he<;>simp only [b1.hx] at he<;>try (cases he;done)
 rename_i es clock;rw [aG] at ah;obtain ⟨q,a,aa,cD,aJ,bu⟩:=ah;rw [af] at aa;cases aa;have cm:(getObj p.aW).run P w=.ok (.map a clock) w:=by simp only [getObj,Sem.run,aJ]
 have jk:=ask.check false;have kE:=(apt.1 aJ).1;have AD:∀(fr:List b3) (bl:Array MapEntry) (fD:Nat),dm E fr bl.toList->
  ∃w',(setObj p.aW (.map bl fD)).run P w=.ok () w'/\a8 ay E (h.set b (.mp fr fD)) w':=by
  intro fr bl fD hm;refine ⟨{w with heap:=w.heap.setIfInBounds p.aW (.map bl fD)},by simp only [setObj,Sem.run,aJ],s.set (p:=p) (by rw [aG];rfl) af cD (by simp) (fun j bp=>?_) rfl rfl rfl (fun _ _ _ e=>by cases e) ?_⟩
  . simp only [apI];rw [apw (fun e=>bp e.symm)]
  . exact ⟨p,bl,af,cD,by simp [kE],hm⟩
 cases av:nI e k es with
 | none=>rw [av] at he;cases he
 | some r=>
   rw [av] at he;simp only at he;obtain ⟨g1,g2⟩:=Qu ask.eq aB es a.toList r 0 av bu;cases r with
   | none=>
     simp only [aps,aqD] at he;obtain ⟨rfl,rfl⟩:=he;have bD:=ask.find (g1 rfl);obtain ⟨w',d1,d2⟩:=AD (es++[⟨k,z,clock⟩]) (a.push ⟨K,Z,clock⟩) (clock+1) (by
      have:∀(es:List b3) (l:List MapEntry),dm E es l->dm E (es++[⟨k,z,clock⟩]) (l++[⟨K,Z,clock⟩]):=by
       intro es
       induction es with
       | nil=>intro l aA;simp only [dm] at aA;subst aA;exact ⟨_,_,rfl,aB,mf,rfl,rfl⟩
       | cons m ms bb=>intro l aA;obtain ⟨cI,fr,rfl,b8,cg,eM,jE⟩:=aA;exact ⟨cI,_,rfl,b8,cg,eM,bb _ jE⟩
      simpa using this es a.toList bu)
     refine ⟨.tuple #[Z,goInt clock],w',E,?_,Env.le.refl E,?_,d2⟩
     . simp only [Instr.mapEntry,Sem.run_bind,hu,Result.andThen_ok,cm,jk,bD,bk,d1,Sem.run_pure]
     . simp only [Rel,bf];exact ⟨_,rfl,_,_,rfl,mf,_,_,rfl,rfl,rfl⟩
   | some m=>
     simp only [aps,aqD] at he;obtain ⟨rfl,rfl⟩:=he;obtain ⟨j,cI,bD,a2,a3,a4,a5,hT,pr⟩:=g2 m rfl;rw [apW] at bD;have b8:=ask.find bD;have aK:a[j]? =some cI:=by simpa using a2
     obtain ⟨w',d1,d2⟩:=AD es (a.modify j fun cI=>{cI with key:=K}) clock (by rw [Array.toList_modify];exact pr);refine ⟨.tuple #[cI.val,goInt cI.born],w',E,?_,Env.le.refl E,?_,d2⟩
     . simp only [Instr.mapEntry,Sem.run_bind,hu,Result.andThen_ok,cm,jk,b8,aK,Option.map,Option.getD,a3,Instr.keyThatStays,hT,ap3,Sem.run_pure,d1]
     . simp only [Rel,bf];exact ⟨_,rfl,_,_,rfl,a4,_,_,rfl,by rw [a5];rfl,rfl⟩
theorem aiP {ay:Fr} {E:Env} {h ab:ae} {w:World} (s:a8 ay E h w) {t:TypeId} {x k v:V} {X K:Value} (aj:Rel E x X) (aB:Rel E k K) (he:(Fq P t).run x k h=.val v ab):c' ay P E w (Instr.mapEntry t X K) v ab:=by
 unfold Fq at he;cases aE:ba P t with
 | none=>rw [aE] at he;cases he
 | some aO=>
   rw [aE] at he;simp only at he;have hu:=fk aE w;cases bV:aO.bj<;>rw [bV] at he<;>simp only at he<;>try (cases he;done)
   rename_i da kp;rw [bV] at hu;cases het:ba P kp with
   | none=>rw [het] at he;cases he
   | some bd=>
     rw [het] at he;simp only at he;cases bk:bd.zero with
     | none=>rw [bk] at he;cases he
     | some z=>
       rw [bk] at he;simp only at he;obtain ⟨u6,mW,mf,_⟩:=zm (P:=P) het bk E w;cases pW:iU P da with
       | true=>
         rw [pW] at he;simp only [apu,DS] at he;cases hm:sU ⟨js h⟩ z h x k with
         | none=>rw [hm] at he;cases he
         | some r=>
           rw [hm] at he;simp only [a7.val.injEq] at he;obtain ⟨rfl,rfl⟩:=he;exact Tg s hu mW mf aj aB (Hz s pW K) hm
       | false=>
         rw [pW] at he;simp only [apA] at he;cases cz:lT P da with
         | false=>rw [cz] at he;cases he
         | true=>
           rw [cz] at he;simp only [apu,xX] at he;cases aG:lg P da k with
           | false=>rw [aG] at he;cases he
           | true=>
             rw [aG] at he;simp only [apu] at he;cases hm:sU (structEq P da) z h x k with
             | none=>rw [hm] at he;cases he
             | some r=>
               rw [hm] at he;simp only [a7.val.injEq] at he;obtain ⟨rfl,rfl⟩:=he;exact Tg s hu mW mf aj aB (HA cz aG aB) hm
end
section
variable {P:Program}
theorem AX (n:Nat):∀(l:List Nat),pK l n=true↔n ∈ l
 | []=>by simp [pK]
 | x::xs=>by
   simp only [pK];cases ah:Nat.beq x n with
   | true=>have:=aqg ah;subst this;simp
   | false=>
     have c4:x≠n:=fun e=>by subst e;rw [ari] at ah;cases ah
     simp [AX n xs,Ne.symm c4]
theorem ade {a:Array Nat} {seen:List Nat} (h:a.toList=seen.reverse) (n:Nat):a.contains n=pK seen n:=by rw [aqm,AX,Array.contains_iff_mem,<-aqW,h,List.mem_reverse]
theorem Kx {E:Env} {a:Array Nat} {seen:List Nat} (h:a.toList=seen.reverse):∀(ms:List b3) (l:List MapEntry),dm E ms l->dm E (leftOf seen ms) (l.filter fun e=>!a.contains e.born)
 | [],l,aC=>by simp only [dm] at aC;subst aC;rfl
 | m::ms,l,aC=>by
   obtain ⟨e,es,rfl,aa,ad,aJ,bu⟩:=aC;have bb:=Kx h ms es bu;have az:a.contains e.born=pK seen m.born:=by rw [ade h,aJ]
   cases ah:pK seen m.born with
   | true=>
     rw [ah] at az;rw [List.filter_cons_of_neg (by rw [az];decide)];simp only [leftOf,ah,apu];exact bb
   | false=>
     rw [ah] at az;rw [List.filter_cons_of_pos (by rw [az];decide)];simp only [leftOf,ah,apA];exact ⟨e,_,rfl,aa,ad,aJ,bb⟩
theorem Hs {E:Env} {last:Nat}:∀(ms:List b3) (l:List MapEntry),dm E ms l->l.all (fun e=>decide (e.born>=last))=qI last ms
 | [],l,aC=>by simp only [dm] at aC;subst aC;rfl
 | m::ms,l,aC=>by
   obtain ⟨e,es,rfl,aa,ad,aJ,bu⟩:=aC;simp only [qI,arh,Hs ms es bu,aJ];cases ah:Nat.ble last m.born with
   | true=>rw [apE] at ah;simp [ah]
   | false=>
     have:¬last<=m.born:=by rw [<-apE,ah];simp
     simp [this]
theorem NA {E:Env} {n:Nat}:∀(ms:List b3) (l:List MapEntry) (m:b3),dm E ms l->r_ n ms=some m->∃e,l.find? (fun e=>e.born == n)=some e/\Rel E m.k e.key/\Rel E m.v e.val
 | [],l,m,aC,h=>by cases h
 | x::xs,l,m,aC,h=>by
   obtain ⟨e,es,rfl,aa,ad,aJ,bu⟩:=aC;simp only [r_] at h;cases ah:Nat.beq x.born n with
   | true=>
     rw [ah] at h;simp only [apu,aps] at h;subst h;have:=aqg ah;exact ⟨e,by simp [List.find?_cons,aJ,this],aa,ad⟩
   | false=>
     rw [ah] at h;simp only [apA] at h;obtain ⟨cC,g1,g2⟩:=NA xs es m bu h;have c4:x.born≠n:=fun e=>by rw [e,ari] at ah;cases ah
     exact ⟨cC,by simp [List.find?_cons,aJ,c4,g1],g2⟩
theorem K4 {k:b1} {f:List b3->Nat->a7} {v:V} {ab:ae} (h:k.hx .fail f=.val v ab):∃es clock,k=.mp es clock/\f es clock=.val v ab:=by
 cases k<;>simp only [b1.hx] at h<;>first
  | (cases h;done)
  | exact ⟨_,_,rfl,h⟩
theorem TT {v:V} {f:aL->Nat->a7} {r:V} {ab:ae} (h:v.iQ .fail f=.val r ab):∃b off,v=.ptr b off/\f b off=.val r ab:=by
 cases v<;>simp only [V.iQ] at h<;>first
  | (cases h;done)
  | exact ⟨_,_,rfl,h⟩
theorem akX {ay:Fr} {E:Env} {h ab:ae} {w:World} (s:a8 ay E h w) {t da kp:TypeId} (hu:(underlying t).run P w=.ok (.map da kp) w) {x v:V} {X:Value} (aj:Rel E x X) (he:rangeMap x h=.val v ab):c' ay P E w (Instr.range t X) v ab:=by
 have dp:=s.fresh h.next (apv _)
 have dF:E.put (aw h.next) ⟨w.heap.size,0,0⟩ (aw h.next)=some ⟨w.heap.size,0,0⟩:=by unfold Env.put;rw [apz rfl]
 unfold rangeMap at he
 split at he
 . simp only [a7.val.injEq] at he;obtain ⟨rfl,rfl⟩:=he;simp only [Rel] at aj;subst aj;refine ⟨.pointer (some ⟨w.heap.size,0,none⟩),{w with heap:=w.heap.push (.mapIter none 0 #[] 0)},_,?_,Env.mm (p:=⟨w.heap.size,0,0⟩) dp,?_,s.alloc 0 ?_⟩
   . simp only [Instr.range,Sem.run_bind,hu,Result.andThen_ok,Sem.run_pure,run_newObj]
   . simp only [Rel];exact ⟨_,dF,by simp⟩
   . exact ⟨_,none,#[],dF,s.frame.size,rfl,by simp,rfl,rfl⟩
 . rename_i c;obtain ⟨es,clock,aG,he⟩:=K4 he;simp only [a7.val.injEq] at he;obtain ⟨rfl,rfl⟩:=he;simp only [Rel] at aj;obtain ⟨p,af,rfl⟩:=aj;have ah:=s.at af;rw [aG] at ah;obtain ⟨q,a,aa,cD,aJ,bu⟩:=ah;rw [af] at aa;cases aa;have cm:(getObj p.aW).run P w=.ok (.map a clock) w:=by simp only [getObj,Sem.run,aJ]
   have hle:E.le (E.put (aw h.next) ⟨w.heap.size,0,0⟩):=Env.mm dp;refine ⟨.pointer (some ⟨w.heap.size,0,none⟩),{w with heap:=w.heap.push (.mapIter (some p.aW) clock #[] clock)},_,?_,hle,?_,s.alloc 0 ?_⟩
   . simp only [Instr.range,Sem.run_bind,hu,Result.andThen_ok,Sem.run_pure,cm,run_newObj]
   . simp only [Rel];exact ⟨_,dF,by simp⟩
   . exact ⟨_,some p.aW,#[],dF,s.frame.size,rfl,by simp,rfl,p,hle _ _ af,rfl⟩
 . cases he
theorem ajh {ay:Fr} {E:Env} {h ab:ae} {w:World} (s:a8 ay E h w) {x v:V} {X:Value} {ty:TypeId} (aj:Rel E x X) (he:gm x h=.val v ab):c' ay P E w (Instr.next X false ty) v ab:=by
 unfold gm at he;obtain ⟨b,off,rfl,aa⟩:=TT he;clear he;have ah:=s.at (p:=_) (by simp only [Rel] at aj;exact aj.choose_spec.1);cases aG:h.get b<;>rw [aG] at aa<;>simp only at aa<;>try (cases aa;done)
 rename_i src since seen last;rw [aG] at ah;cases aY:Nat.beq off 0 with
 | false=>rw [aY] at aa;cases aa
 | true=>
 rw [aY] at aa;simp only [apu] at aa;have aY:=aqg aY;subst aY;obtain ⟨p,m,a,af,cD,k7,a',bt,iB⟩:=ah;simp only [Rel] at aj;obtain ⟨q,az,rfl⟩:=aj;rw [af] at az;cases az;have cm:(getObj p.aW).run P w=.ok (.mapIter m since a last) w:=by simp only [getObj,Sem.run,a']
 have over:Rel E (.tuple [.bool false]) (.tuple #[.bool false]):=by simp only [Rel,bf];exact ⟨_,rfl,_,_,rfl,rfl,rfl⟩
 cases src with
 | none=>
   simp only [tI] at iB;subst iB;simp only [a7.val.injEq] at aa;obtain ⟨rfl,rfl⟩:=aa;refine c'.plain (Z:=.tuple #[.bool false]) s ?_ over;simp only [Instr.next,k7,Sem.run_bind,cm,Result.andThen_ok,Sem.run_pure]
 | some c=>
   simp only [tI] at iB;obtain ⟨o5,mb,rfl⟩:=iB;simp only at aa;obtain ⟨es,clock,A9,aa⟩:=K4 aa;have pM:=s.at mb;rw [A9] at pM;obtain ⟨q,h1,g1,_,g3,g4⟩:=pM;rw [mb] at g1;cases g1;have vU:(getObj o5.aW).run P w=.ok (.map h1 clock) w:=by simp only [getObj,Sem.run,g3]
   cases ao:(!seen.isEmpty&&(!es.isEmpty&&qI last es)) with
   | true=>rw [ao] at aa;cases aa
   | false=>
     rw [ao] at aa;simp only [apA] at aa;have aK:a.isEmpty=seen.isEmpty:=by
      have:a.toList.isEmpty=seen.reverse.isEmpty:=by rw [bt]
      simpa using this
     have aS:h1.isEmpty=es.isEmpty:=by
      cases es with
      | nil=>simp only [dm] at g4;have:h1=#[]:=ard.1 g4
             simp [this]
      | cons y cp=>obtain ⟨e,l,aA,_⟩:=g4;have:h1.toList.isEmpty=false:=by rw [aA];rfl
                   simpa using this
     have bU:h1.all (fun e=>decide (e.born>=last))=qI last es:=by rw [<-Hs es _ g4,Array.all_toList]
     have A3:(!a.isEmpty&&!h1.isEmpty&&h1.all (fun e=>decide (e.born>=last)))=false:=by rw [aK,aS,bU,Bool.and_assoc];exact ao
     have pR:=Kx (E:=E) bt es _ g4;have A7:(h1.filter fun e=>!a.contains e.born).toList=h1.toList.filter fun e=>!a.contains e.born:=by simp
     cases aA:leftOf seen es with
     | nil=>
       rw [aA] at aa pR;simp only [KP,a7.val.injEq] at aa;obtain ⟨rfl,rfl⟩:=aa;simp only [dm] at pR;have hD:(h1.filter fun e=>!a.contains e.born)=#[]:=by apply ard.1;rw [A7,pR]
       refine c'.plain (Z:=.tuple #[.bool false]) s ?_ over;simp only [Instr.next,k7,Sem.run_bind,cm,Result.andThen_ok,vU,A3,apH,ap9,hD,Sem.run_pure];simp [choose,Sem.run,Question.forced]
     | cons y cp=>
       rw [aA] at aa pR;cases cp with
       | cons _ _=>cases aa
       | nil=>
         simp only [KP] at aa;cases aR:Nat.blt y.born since with
         | false=>rw [aR] at aa;cases aa
         | true=>
           rw [aR] at aa;simp only [apu,a7.val.injEq] at aa;obtain ⟨rfl,rfl⟩:=aa;rw [apR] at aR;obtain ⟨e,r,aC,b7,cj,ei,hH⟩:=pR;simp only [dm] at hH;subst hH;have hD:(h1.filter fun e=>!a.contains e.born)=#[e]:=by apply ard.1;rw [A7,aC]
           rw [<-ei] at aR ⊢
           let b2:Obj:=.mapIter (some o5.aW) since (a.push e.born) clock
           let w':World:={w with heap:=w.heap.setIfInBounds p.aW b2}
           have kE:=(apt.1 a').1;have pZ:(setObj p.aW b2).run P w=.ok () w':=by simp only [setObj,Sem.run,a'];rfl
           have uf:¬since<=e.born:=by omega
           refine ⟨.tuple #[.bool true,e.key,e.val],w',E,?_,Env.le.refl E,?_,s.set (p:=p) (by rw [aG];rfl) af cD (by simp [w']) (fun j bp=>?_) rfl rfl rfl (fun _ _ _ e=>by cases e) ?_⟩
           . simp only [Instr.next,k7,Sem.run_bind,cm,Result.andThen_ok,vU,A3,apH,ap9,hD,Sem.run_pure];have aa:(#[e]:Array MapEntry).filter (fun x=>decide (x.born<since))=#[e]:=by simp [aR]
             have ad:(#[e]:Array MapEntry).filter (fun x=>decide (x.born>=since))=#[]:=by simp [aR]
             have k8:(choose (.mapNext 1)).run P w=.ok 0 w:=by simp [choose,Sem.run,Question.forced]
             simp only [aa,ad];simp [k8];change ((setObj p.aW b2).run P w).andThen _=_;rw [pZ];rfl
           . simp only [Rel,bf];exact ⟨_,rfl,_,_,rfl,rfl,_,_,rfl,b7,_,_,rfl,cj,rfl⟩
           . simp only [w',apI];rw [apw (fun e=>bp e.symm)]
           . exact ⟨p,some o5.aW,a.push e.born,af,cD,k7,by simp [w',kE,b2],by simp [bt],o5,mb,rfl⟩
theorem aa' {ay:Fr} {E:Env} {h ab:ae} {w:World} (s:a8 ay E h w) {x v:V} {X:Value} (aj:Rel E x X) (he:so x h=.val v ab):c' ay P E w (Instr.entry X) v ab:=by
 unfold so at he;obtain ⟨b,off,rfl,aa⟩:=TT he;clear he;have ah:=s.at (p:=_) (by simp only [Rel] at aj;exact aj.choose_spec.1);cases aG:h.get b<;>rw [aG] at aa<;>simp only at aa<;>try (cases aa;done)
 rename_i src since seen last;rw [aG] at ah;cases aY:Nat.beq off 0 with
 | false=>rw [aY] at aa;cases aa
 | true=>
 rw [aY] at aa;simp only [apu] at aa;have aY:=aqg aY;subst aY;obtain ⟨p,m,a,af,cD,k7,a',bt,iB⟩:=ah;simp only [Rel] at aj;obtain ⟨q,az,rfl⟩:=aj;rw [af] at az;cases az;have cm:(getObj p.aW).run P w=.ok (.mapIter m since a last) w:=by simp only [getObj,Sem.run,a']
 cases src with
 | none=>cases aa
 | some c=>
   simp only [tI] at iB;obtain ⟨o5,mb,rfl⟩:=iB;simp only at aa;cases seen with
   | nil=>cases aa
   | cons n aoL=>
   simp only at aa;obtain ⟨es,clock,A9,aa⟩:=K4 aa;have pM:=s.at mb;rw [A9] at pM;obtain ⟨q,h1,g1,_,g3,g4⟩:=pM;rw [mb] at g1;cases g1;have vU:(getObj o5.aW).run P w=.ok (.map h1 clock) w:=by simp only [getObj,Sem.run,g3]
   rename_i acH _;clear acH;cases fJ:Nat.beq clock last with
   | false=>rw [fJ] at aa;cases aa
   | true=>
     rw [fJ] at aa;simp only [apu] at aa;have:=aqg fJ;subst this;cases IV:r_ n es with
     | none=>rw [IV] at aa;cases aa
     | some y=>
       rw [IV] at aa;simp only [a7.val.injEq] at aa;obtain ⟨rfl,rfl⟩:=aa;obtain ⟨e,f1,f2,f3⟩:=NA es _ y g4 IV;have adj:a.back? =some n:=by
        have:a.toList.getLast? =some n:=by rw [bt];simp
        simpa using this
       have t_:h1.find? (fun e=>e.born == n)=some e:=by rw [<-f1];simp
       refine c'.plain (Z:=.tuple #[e.key,e.val]) s ?_ ?_
       . simp only [Instr.entry,k7,Sem.run_bind,cm,Result.andThen_ok,adj,vU,bne_self_eq_false,apH,ap9,t_,Sem.run_pure]
       . simp only [Rel,bf];exact ⟨_,rfl,_,_,rfl,f2,_,_,rfl,f3,rfl⟩
end
section
variable {P:Program}
theorem XP {ay:Fr} {E:Env} {h ab:ae} {w:World} (s:a8 ay E h w) {t u e:TypeId} {size:Nat} (aen:1<=size) {x v:V} {X Y:Value} {ty:TypeId} {n:Nat} {new:List V} {l:List Value}
 (aA:bf E new l) (j7:new.length=n * size) (fb:n<=top)
 (dI:∀(w':World) (A:Option Addr) (c0 fl:Nat),c0+n<=fl->(∀a,A=some a->(storeCells (a.add (c0 * size)) l).run P w=.ok () w')->(A=none->w'=w)->
   (Builtin.append_ #[t,u] ty #[.slice A c0 fl,Y]).run P w=.ok (.slice A (c0+n) fl) w')
 (pV:∀(A:Option Addr) (c0 fl:Nat) (bG:List Value),(∀w':World,w'.heap=w.heap->(Builtin.firstCells size c0 (.slice A c0 fl)).run P w'=.ok bG.toArray w')->¬c0+n<=fl->c0+n<=top->bG.length=c0 * size->l.length=n * size->
   ∃cap rest w',c0+n<=cap/\cap * size<=((bG++l).toArray++rest).size/\
   (Builtin.append_ #[t,u] ty #[.slice A c0 fl,Y]).run P w=.ok (.slice (some ⟨w.heap.size,0,none⟩) (c0+n) cap) w'/\
   w'.heap=w.heap.push (.cells ((bG++l).toArray++rest) e)/\w'.os=w.os/\w'.tape=w.tape/\w'.output=w.output)
 (he:Hx size n new x h=.val v ab) (aj:Rel E x X):c' ay P E w (Builtin.append_ #[t,u] ty #[X,Y]) v ab:=by
 have pQ:l.length=n * size:=by rw [aA.length,j7]
 unfold Hx at he;cases x<;>simp only at he<;>try (cases he;done)
 . -- a slice of known capacity
   rename_i b off len cap;simp only [Rel] at aj;obtain ⟨p,af,sz,rfl⟩:=aj;simp only [vk] at he;cases eQ:Nat.ble (len+n) cap with
   | true=>
     rw [eQ] at he;simp only [apu] at he;rw [apE] at eQ;cases k9:lay h b (off+len * size) new with
     | none=>rw [k9] at he;cases he
     | some aa=>
     rw [k9] at he;simp only [a7.val.injEq] at he;obtain ⟨rfl,rfl⟩:=he;obtain ⟨w',cz,jn⟩:=yK (P:=P) s aA k9 af;refine ⟨_,w',E,dI w' _ _ _ eQ (fun a bt=>?_) (fun bt=>by cases bt),Env.le.refl E,?_,jn⟩
     . cases bt;rw [add_eq,aqx];exact cz
     . simp only [Rel];exact ⟨p,af,eQ,rfl⟩
   | false=>
     rw [eQ] at he;simp only [apA] at he;have JS:¬len+n<=cap:=by rw [<-apE,eQ];simp
     obtain ⟨ah,he⟩:=j0 he;simp only [apq,apE] at ah;cases hold:o9 h size b off len with
     | none=>rw [hold] at he;cases he
     | some bG=>
     rw [hold] at he;simp only at he;cases fP:ll h (bG++new) size false with
     | none=>rw [fP] at he;cases he
     | some aa=>
     rw [fP] at he;simp only [a7.val.injEq] at he;obtain ⟨rfl,rfl⟩:=he;obtain ⟨q,bP,az,ep,l_,hE⟩:=zs (P:=P) s ⟨p,af⟩ hold;rw [af] at az;cases az;obtain ⟨c,rest,w',b7,cj,ei,hH,lb,mY,p6⟩:=pV (some ⟨p.aW,p.base+off,none⟩) (len) (cap) _
      (fun w' hw=>by simp only [Builtin.firstCells];exact hE w' hw) JS ah.1 (by rw [ep.length,l_]) pQ
     obtain ⟨ar,g1,g2,g3⟩:=wN (w':=w') (bZ:=(0,0)) s (ep.append aA) fP cj (.inr (apv _)) (fun _=>rfl) hH lb mY p6;refine ⟨_,w',ar,ei,g1,?_,g3⟩;simp only [Rel];exact ⟨_,g2,by simp only;omega,by simp⟩
 . -- one that was appended to
   rename_i b off len idx;have Bw:=aj;simp only [Rel] at aj;obtain ⟨p,af,Ry,rfl⟩:=aj;simp only [xI] at he;cases iM:Nat.beq n 0 with
   | true=>
     rw [iM] at he;simp only [apu] at he;cases he;rw [apV] at iM;subst iM;have j6:l=[]:=by cases l with | nil=>rfl | cons _ _=>simp at pQ
     subst j6;refine ⟨_,w,E,dI w _ _ _ (by omega) (fun a _=>rfl) (fun bt=>by cases bt),Env.le.refl E,?_,s⟩;simpa using Bw
   | false=>
     rw [iM] at he;simp only [apA] at he;have qZ:=s.at af;cases aG:h.get b with
     | dead=>rw [aG] at he;cases he
     | view _ _=>rw [aG] at he;cases he
     | iter _ _=>rw [aG] at he;cases he
     | mp _ _=>rw [aG] at he;cases he
     | fi _=>rw [aG] at he;cases he
     | hj=>rw [aG] at he;cases he
     | ht _=>rw [aG] at he;cases he
     | gD _ _ _ _=>rw [aG] at he;cases he
     | cells N cs cH st=>
       rw [aG] at he qZ;simp only [b1.on] at he;obtain ⟨ah,he⟩:=j0 he;simp only [apq,apE,apV] at ah;obtain ⟨⟨I8,JH,JI⟩,Bk⟩:=ah;cases hold:o9 h size b off len with
       | none=>rw [hold] at he;cases he
       | some bG=>
       rw [hold] at he;simp only at he;cases fP:ll (h.set b .dead) (bG++new) size st with
       | none=>rw [fP] at he;cases he
       | some aa=>
       rw [fP] at he;simp only [a7.val.injEq] at he;obtain ⟨rfl,rfl⟩:=he;obtain ⟨q,bP,az,ep,l_,hE⟩:=zs (P:=P) s ⟨p,af⟩ hold;rw [af] at az;cases az;obtain ⟨bE,q,c,el,bZ,aK,cD,a',q4,cz,mP,bz⟩:=qZ;rw [af] at aK;cases aK;have sE:=aen;have mP:=mP (by omega);rw [I8] at mP;have zp:=s.kill af;by_cases eQ:len+n<=p.cap-idx
       . -- in place
         have aR:=(apt.1 a').1;have adT:(idx+len+n) * size<=p.cap * size:=aqz _ (by omega);have hbound:p.base+off+len * size+0+l.length<=c.size:=by
          rw [pQ,Bk];have:(idx+len+n) * size=idx * size+len * size+n * size:=by rw [aqw,aqw]
          omega
         have Bt:=Gl (P:=P) aR el bZ (p.base+off+len * size) l c 0 (FK JI aA) hbound q4;rw [Mb a',aqC] at Bt;have JV:=dI (lx w p.aW (p8 c (p.base+off+len * size) l) el bZ) (some ⟨p.aW,p.base+off,none⟩) _ _ eQ
          (fun a bt=>by cases bt;rw [add_eq];exact Bt) (fun bt=>by cases bt)
         unfold ll at fP;obtain ⟨ao,fP⟩:=ev fP;simp only [apq,apE] at ao;simp only [aps] at fP;subst fP;have dp:=s.fresh h.next (apv _)
         have hle:E.le (E.put (aw h.next) ⟨p.aW,p.base+off,p.cap-idx⟩):=Env.mm dp;have dF:E.put (aw h.next) ⟨p.aW,p.base+off,p.cap-idx⟩ (aw h.next)=some ⟨p.aW,p.base+off,p.cap-idx⟩:=by unfold Env.put;rw [apz rfl]
         refine ⟨_,_,_,JV,hle,?_,a8.add (p:=⟨p.aW,p.base+off,p.cap-idx⟩) zp (by rw [Mc];exact apv _) (fun j _ bp=>Ma _ _ _ bp) cD (fun bL fj hY sF heq=>?_) rfl rfl rfl (fun _ _ _ e=>by injection e with _ _ bU;omega) ?_⟩
         . simp only [Rel];exact ⟨_,dF,by simp only;omega,by simp⟩
         . rw [ae.dV] at hY;by_cases jj:b=bL
           . rw [apz jj] at hY;cases hY
           . rw [apw jj] at hY;exact jj (s.inj b bL p fj (by rw [aG];rfl) hY af sF heq.symm)
         . have Jq:(bG++new).length=(len+n) * size:=by rw [apD,l_,j7,aqw]
           have adI:(len+n) * size=len * size+n * size:=aqw _ _ _;refine ⟨ao.1,_,_,el,bZ,dF,cD,CC aR _ _ _,by rw [rk];exact q4,cz,fun _=>?_,?_⟩
           . rw [rk];simp only;have:idx * size + (p.cap-idx) * size=p.cap * size:=by rw [<-aqw];congr 1;omega
             omega
           . refine ⟨by rw [rk,Jq,aqw];simp only;omega,fun i y ax a6=>?_⟩;rw [Cl _ _ _ _ (by omega) (by omega),apz (by omega),arD];rw [Ff _ _ _ _ (by omega)] at a6;simp only at a6;by_cases cv:i<len * size
             . rw [apw (by omega)] at a6;rw [apM (by omega)];have cm:=hE w rfl;have JQ:=run_loadCells (P:=P) (w:=w) (off:=p.base+off) (n:=len * size) a' (by omega);rw [JQ] at cm;simp only [Result.ok.injEq,and_true] at cm;have Bf:bP=(c.toList.drop (p.base+off)).take (len * size):=by
                have:=congrArg Array.toList cm;simpa using this.symm
               obtain ⟨tq,hG,aC⟩:=ep.get i bG[i] (apr (by omega));rw [apr (by omega)];rw [Bf] at hG;rw [aqs (by omega),aqJ] at hG;simp only [aq1] at hG;rw [a6] at hG;cases hG;exact Rel.mono hle _ _ aC
             . rw [apz (by omega)] at a6;rw [apO (by omega)];have bU:p.base+off+i - (p.base+off+len * size)=i-bG.length:=by omega
               rw [bU] at a6;have Bg:i-bG.length<new.length:=by omega
               obtain ⟨tq,hG,aC⟩:=aA.get (i-bG.length) new[i-bG.length] (apr Bg);rw [a6] at hG;cases hG;rw [apr Bg];exact Rel.mono hle _ _ aC
       . -- elsewhere
         obtain ⟨bR,rest,w',b7,cj,ei,hH,lb,mY,p6⟩:=pV (some ⟨p.aW,p.base+off,none⟩) (len) (p.cap-idx) _
          (fun w' hw=>by simp only [Builtin.firstCells];exact hE w' hw) eQ JH (by rw [ep.length,l_]) pQ
         obtain ⟨ar,g1,g2,g3⟩:=wN (w':=w') (bZ:=(0,0)) zp (ep.append aA) fP cj (.inr (apv _)) (fun _=>rfl) hH lb mY p6;refine ⟨_,w',ar,ei,g1,?_,g3⟩;simp only [Rel];exact ⟨_,g2,by simp only;omega,by simp⟩
 . -- nil
   simp only [Rel] at aj;subst aj;simp only [vl] at he;cases iM:Nat.beq n 0 with
   | true=>
     rw [iM] at he;simp only [apu] at he;cases he;rw [apV] at iM;subst iM;exact c'.plain s (dI w _ _ _ (by omega) (fun a bt=>by cases bt) (fun _=>rfl)) (by simp [Rel])
   | false=>
     rw [iM] at he;simp only [apA] at he;have ue:¬n=0:=by intro e;subst e;simp at iM
     cases fP:ll h new size false with
     | none=>rw [fP] at he;cases he
     | some aa=>
     rw [fP] at he;simp only [a7.val.injEq] at he;obtain ⟨rfl,rfl⟩:=he;obtain ⟨c,rest,w',b7,cj,ei,hH,lb,mY,p6⟩:=pV (none) (0) (0) []
      (fun w' _=>by simp [Builtin.firstCells]) (by omega) (by omega) (by simp) pQ
     obtain ⟨ar,g1,g2,g3⟩:=wN (w':=w') (bZ:=(0,0)) s aA fP cj (.inr (apv _)) (fun _=>rfl) hH lb mY p6;refine ⟨_,w',ar,ei,g1,?_,g3⟩;simp only [Rel];exact ⟨_,g2,by simp only;omega,by simp⟩
structure Hq (P:Program) (t u e:TypeId) (size bytes:Nat) (k:IntKind) (z:Value):Prop where
 ut:∀w,(underlying t).run P w=.ok (.slice e) w
 tl:∀w,(underlying u).run P w=.ok (.int k) w
 rI:∀w,(sizeOf e).run P w=.ok size w
 Dz:∀w,∃i,(typeInfo e).run P w=.ok i w/\i.bytes=bytes
 zE:∀w,(zeroValue e).run P w=.ok z w
 u5:z.cells.size=size
 pos:1<=size
 small:bytes<=4096
theorem V4 (c:Array Value):Builtin.zeroCells c 0=#[]:=by simp [Builtin.zeroCells]
theorem alr {t u e:TypeId} {size bytes:Nat} {k:IntKind} {z:Value} (H:Hq P t u e size bytes k z) {n:Nat} (aV:n<=100000) {ty:TypeId} {w w':World} {A:Option Addr} {c0 fl:Nat} (eQ:c0+n<=fl)
 (cz:∀a,A=some a->(storeCells (a.add (c0 * size)) (Builtin.zeroCells z.cells n).toList).run P w=.ok () w') (dp:A=none->w'=w):
 (Builtin.append_ #[t,u] ty #[.slice A c0 fl,.int .i64 n]).run P w=.ok (.slice A (c0+n) fl) w':=by
 have hw:IntKind.i64.wrap (n:Int)=n:=by unfold IntKind.wrap;simp [IntKind.bits,IntKind.signed];omega
 obtain ⟨i,ax,q7⟩:=H.Dz w;have tU:¬(281474976710656 < (n:Int) * (i.bytes:Int)):=by rw [q7];have aa:n * bytes<=100000 * 4096:=Nat.mul_le_mul aV H.small;have ad:((n * bytes:Nat):Int)=(n:Int) * (bytes:Int):=Int.natCast_mul _ _;omega
 have EO:¬((n:Int)<0):=by omega
 have cq:size≠0:=by have:=H.pos;omega
 have bt:∀w,(asInt (.int .i64 (n:Int))).run P w=.ok (n:Int) w:=fun w=>by simp [asInt,asIntOf]
 have Er:∀w,(asInt (.int .i64 0)).run P w=.ok 0 w:=fun w=>by simp [asInt,asIntOf]
 have yD:IntKind.i64.wrap 0=0:=by decide
 cases A with
 | none=>
   have:=dp rfl;subst this;by_cases aY:n=0
   . subst aY;simp [Builtin.append_,H.ut,H.tl,H.rI,Er,ax,yD,(show c0<=fl from by omega)]
   . simp [Builtin.append_,H.ut,H.tl,H.rI,H.zE,bt,ax,tU,hw,eQ,EO,cq,aY]
 | some a=>
   have:=cz a rfl;by_cases aY:n=0
   . subst aY;rw [V4] at this;simp [Builtin.append_,H.ut,H.tl,H.rI,Er,ax,yD,(show c0<=fl from by omega),this]
   . simp [Builtin.append_,H.ut,H.tl,H.rI,H.zE,bt,ax,tU,hw,eQ,EO,Nat.mul_ne_zero aY cq,this]
theorem als {t u e:TypeId} {size bytes:Nat} {k:IntKind} {z:Value} (H:Hq P t u e size bytes k z) {n:Nat} (aV:n<=100000) {ty:TypeId} {w:World} (A:Option Addr) (c0 fl:Nat) (bG:List Value)
 (hold:∀w':World,w'.heap=w.heap->(Builtin.firstCells size c0 (.slice A c0 fl)).run P w'=.ok bG.toArray w') (eQ:¬c0+n<=fl) (Bs:c0+n<=top) (aU:bG.length=c0 * size) (aA:(Builtin.zeroCells z.cells n).toList.length=n * size):
 ∃cap rest w',c0+n<=cap/\cap * size<=((bG++(Builtin.zeroCells z.cells n).toList).toArray++rest).size/\
  (Builtin.append_ #[t,u] ty #[.slice A c0 fl,.int .i64 n]).run P w=.ok (.slice (some ⟨w.heap.size,0,none⟩) (c0+n) cap) w'/\
  w'.heap=w.heap.push (.cells ((bG++(Builtin.zeroCells z.cells n).toList).toArray++rest) e)/\w'.os=w.os/\w'.tape=w.tape/\w'.output=w.output:=by
 have hw:IntKind.i64.wrap (n:Int)=n:=by simp only [IntKind.wrap,IntKind.bits,IntKind.signed];simp;omega
 obtain ⟨i,ax,q7⟩:=H.Dz w;have k_:P.info? e=some i:=by
  simp only [typeInfo,Sem.run_bind,run_program,Result.andThen_ok] at ax;cases az:P.info? e with
  | none=>rw [az] at ax;simp at ax
  | some j=>rw [az] at ax;simp at ax;rw [ax]
 have vV:∀w',(typeInfo e).run P w'=.ok i w':=fun w'=>zl k_ w';have afc:¬(281474976710656 < (n:Int) * (i.bytes:Int)):=by rw [q7];have aa:n * bytes<=100000 * 4096:=Nat.mul_le_mul aV H.small;have ad:((n * bytes:Nat):Int)=(n:Int) * (bytes:Int):=Int.natCast_mul _ _;omega
 have tU:¬(281474976710656<Builtin.nextslicecap (c0+n) fl * i.bytes):=by
  have aa:fl<c0+n:=by omega
  have:=growslice_fits (bytes:=i.bytes) aa (by rw [q7];have ad:(c0+n) * bytes<=top * 4096:=Nat.mul_le_mul Bs H.small;unfold top at ad;omega);omega
 have iz:¬(9223372036854775807 < ((c0:Int) + (n:Int))):=by unfold top at Bs;omega
 have EO:¬((n:Int)<0):=by omega
 have cq:size≠0:=by have:=H.pos;omega
 have bt:∀w,(asInt (.int .i64 (n:Int))).run P w=.ok (n:Int) w:=fun w=>by simp [asInt,asIntOf]
 have Er:∀w,(asInt (.int .i64 0)).run P w=.ok 0 w:=fun w=>by simp [asInt,asIntOf]
 have yD:IntKind.i64.wrap 0=0:=by decide
 let q:Question:=.appendCap (c0+n) fl e
 let cap:=q.cut (w.tape w.drawn q)
 have mP:c0+n<=cap:=by show c0+n<=(c0+n)+_;omega
 refine ⟨cap,Builtin.zeroCells z.cells (cap - (c0+n)),w.drew.alloc (.cells ((bG++(Builtin.zeroCells z.cells n).toList).toArray++Builtin.zeroCells z.cells (cap - (c0+n))) e),mP,?_,?_,rfl,rfl,rfl,rfl⟩
 . simp only [Array.size_append,List.size_toArray,apD,aU,aA];have:(Builtin.zeroCells z.cells (cap - (c0+n))).size=(cap - (c0+n)) * size:=by simp [Builtin.zeroCells,H.u5]
   rw [this,<-aqw,<-aqw];exact aqz _ (by omega)
 . have f2:=hold w.drew rfl;by_cases aY:n=0
   . subst aY;have aeB:¬c0<=fl:=by omega
     have adi:¬(9223372036854775807 < (c0:Int)):=by omega
     rw [aqC] at tU;simp [Builtin.append_,H.ut,H.tl,H.rI,H.zE,Er,yD,vV,aeB,tU,adi,Question.forced,f2,newRow];refine ⟨rfl,?_⟩;have aK:(bG++(Builtin.zeroCells z.cells 0).toList).toArray=bG.toArray:=by rw [V4];simp
     rw [aK];rfl
   . simp [Builtin.append_,H.ut,H.tl,H.rI,H.zE,bt,hw,afc,EO,Nat.mul_ne_zero aY cq,eQ,vV,tU,iz,Question.forced,f2,newRow];refine ⟨rfl,?_⟩;have aK:(bG++(Builtin.zeroCells z.cells n).toList).toArray=bG.toArray++Builtin.zeroCells z.cells n:=by simp
     rw [aK,Array.append_assoc]
end
section
variable {P:Program}
abbrev b4 (rd:Option Nat):Fence:={fn:=fun _=>True,depth:=none,alive:=false,round:=rd}
theorem sf {rd:Option Nat} {n:Nat} {f:FuncId} {args:Array Value} {w:World} {R:Ending->World->Prop}:CallsIn (b4 rd) n P f args w R↔Calls P f args w R:=callsIn_wide
theorem Ge {rd:Option Nat} (n:Nat):(b4 rd).room n:=fun _ h=>by simp [b4] at h
abbrev qd (x:Value):List PanicEntry:=[{v:=x,recovered:=false}]
structure gq (P:Program) (call:dO):Prop where
 fn:∀(ay:Fr) f args h v ab,f≠dr->call f args h=.val v ab->∀E w xs,bf E args xs->a8 ay E h w->
  ((∃fn,P.funcs[f]? =some fn/\fn.body.isSome=true)/\Calls P f xs.toArray w fun e w'=>∃ar x,e=.returned x/\E.le ar/\Rel ar v x/\a8 ay ar ab w')\/
  ∃ar x w',(callFunc f xs.toArray).run P w=.ok (.value x) w'/\E.le ar/\Rel ar v x/\a8 ay ar ab w'
 cK:∀(ay:Fr) f args h v ab,f≠dr->call f args h=.cK v ab->∀E w xs,bf E args xs->a8 ay E h w->
  (∃fn,P.funcs[f]? =some fn/\fn.body.isSome=true)/\Calls P f xs.toArray w fun e w'=>∃ar x,e=.panicked (qd x)/\E.le ar/\Rel ar v x/\a8 ay ar ab w'
 V2:∀(ay:Fr) args b h v ab,call dr (args++[.ptr b 0]) h=.val v ab->∀E w xs p,bf E args xs->a8 ay E h w->E b=some p->
  ∃f tmps assign body,(Instr.yield p.aW xs.toArray).run P w=.ok (.round p.aW f tmps assign body) w/\
   RoundIn (b4 none) 0 P p.aW f tmps assign body w fun e w'=>∃ar x,e=.returned x/\E.le ar/\Rel ar v x/\a8 ay ar ab w'
 V3:∀args h v ab,call dr args h≠.cK v ab
theorem qo {rd:Option Nat} {o:Oper} (oP:∀c,o.op≠.defer c) (ρ:Operand->Value):o.semAt (b4 rd).round ρ=execOp ρ o:=Oper.semAt_eq _ ρ o oP
theorem fL {rd:Option Nat} {o:Oper} {a:Act} {w:World} {ay:Fr} {E:Env} {ab:ae} {v:V} {m:Sem Value} {K:Act->World->Prop} {Q:Exit->Act->World->Prop}
 (aj:execOp a.eval o=(do pure (.value (<-m)))) (g:c' ay P E w m v ab) (dE:∀ar x w',E.le ar->Rel ar v x->a8 ay ar ab w'->K (a.put o.dst x) w') (oP:∀c,o.op≠.defer c:=by intro c h;cases h):
 o.wpIn (b4 rd) 0 P a w K Q:=by
 obtain ⟨Z,w',ar,aa,ad,aJ,bu⟩:=g;refine ⟨fun _ _=>trivial,?_⟩;rw [qo oP,aj,Sem.run_bind,aa];exact dE ar Z w' ad aJ bu
theorem FQ {E:Env} {aq:Nat} {r:bC} {a:Act} (k:RegRel0 E aq r a):∀l:List (Nat × Operand),r1 E ((uM l).run r) (l.map fun (i,x)=>(i,a.eval x))
 | []=>rfl
 | (i,x)::l=>by simp only [uM,List.map,r1];exact ⟨_,_,rfl,dx k x,FQ k l⟩
theorem FO {E:Env} {aq:Nat} {r:bC} {a:Act} (k:RegRel0 E aq r a) (x:Option Operand):hM E ((ry x).run r) (x.map a.eval):=by
 cases x with
 | none=>rfl
 | some x=>simp only [ry,hM,Option.map];exact ⟨_,rfl,dx k x⟩
theorem ajM {v:V} {f:aL->Nat->a7} {r:V} {h:ae} (he:v.iQ .fail f=.val r h):∃b off,v=.ptr b off/\f b off=.val r h:=by
 cases v<;>simp only [V.iQ] at he<;>first
  | (cases he;done)
  | exact ⟨_,_,rfl,he⟩
theorem ajj {ay:Fr} {E:Env} {h ab:ae} {w:World} (s:a8 ay E h w) {x v:V} {X:Value} {ty:TypeId} (aj:Rel E x X) (he:wO x h=.val v ab):c' ay P E w (Instr.next X true ty) v ab:=by
 unfold wO at he;obtain ⟨b,off,rfl,aa⟩:=ajM he;have ah:=s.at (p:=_) (by simp only [Rel] at aj;exact aj.choose_spec.1);cases aG:h.get b with
 | dead=>rw [aG] at aa;cases aa
 | view _ _=>rw [aG] at aa;cases aa
 | cells _ _ _ _=>rw [aG] at aa;cases aa
 | mp _ _=>rw [aG] at aa;cases aa
 | fi _=>rw [aG] at aa;cases aa
 | hj=>rw [aG] at aa;cases aa
 | ht _=>rw [aG] at aa;cases aa
 | gD _ _ _ _=>rw [aG] at aa;cases aa
 | iter st pos=>
   rw [aG] at aa ah;simp only at aa;obtain ⟨aY,ad⟩:=j0 aa;rw [apV] at aY;subst aY;obtain ⟨p,af,cD,k7,a'⟩:=ah;simp only [Rel] at aj;obtain ⟨q,az,rfl⟩:=aj;rw [af] at az;cases az;have cm:(getObj p.aW).run P w=.ok (.stringIter ⟨⟨st⟩⟩ pos) w:=by simp only [getObj,Sem.run,a']
   have cq:(⟨⟨st⟩⟩:ByteArray).size=st.length:=rfl;cases aR:Nat.blt pos st.length with
   | true=>
     rw [aR] at ad;simp only [apu,a7.val.injEq] at ad;obtain ⟨rfl,rfl⟩:=ad;rw [apR] at aR
     let b2:Obj:=.stringIter ⟨⟨st⟩⟩ (pos + (decodeL st pos).2)
     let w':World:={w with heap:=w.heap.setIfInBounds p.aW b2}
     have kE:=(apt.1 a').1;have pZ:(setObj p.aW b2).run P w=.ok () w':=by simp only [setObj,Sem.run,a'];rfl
     refine ⟨.tuple #[.bool true,goInt pos,.int .i32 (decodeL st pos).1],w',E,?_,Env.le.refl E,?_,s.set (p:=p) (by rw [aG];rfl) af cD (by simp [w']) (fun j bp=>?_) rfl rfl rfl (fun _ _ _ e=>by cases e) ?_⟩
     . simp only [Instr.next,k7,Sem.run_bind,cm,Result.andThen_ok,cq,apz aR];have:(Utf8.decode (⟨⟨st⟩⟩:ByteArray) pos)=decodeL st pos:=rfl;simp only [this];rw [pZ];rfl
     . simp only [Rel,bf];exact ⟨_,rfl,_,_,rfl,rfl,_,_,rfl,rfl,_,_,rfl,rfl,rfl⟩
     . simp only [w',apI];rw [apw (fun e=>bp e.symm)]
     . exact ⟨p,af,cD,k7,by simp [w',kE,b2]⟩
   | false=>
     rw [aR] at ad;simp only [apA,a7.val.injEq] at ad;obtain ⟨rfl,rfl⟩:=ad;have pT:¬pos<st.length:=by rw [<-apR,aR];simp
     refine c'.plain (Z:=.tuple #[.bool false]) s ?_ ?_
     . simp only [Instr.next,k7,Sem.run_bind,cm,Result.andThen_ok,cq,apw pT,Sem.run_pure]
     . simp only [Rel,bf];exact ⟨_,rfl,_,_,rfl,rfl,rfl⟩
theorem akW {ay:Fr} {E:Env} {h ab:ae} {w:World} (s:a8 ay E h w) {t:TypeId} {x v:V} {X:Value} (aj:Rel E x X) (he:(F7 P t).run x h=.val v ab):c' ay P E w (Instr.range t X) v ab:=by
 unfold F7 at he;cases aE:ba P t with
 | none=>rw [aE] at he;cases he
 | some aO=>
   rw [aE] at he;simp only at he;have hu:=fk aE;cases bV:aO.bj with
   | string=>
     rw [bV] at he hu;simp only at he;cases x<;>simp only at he<;>try (cases he;done)
     rename_i st;simp only [a7.val.injEq] at he;obtain ⟨rfl,rfl⟩:=he;have:=aj.th;subst this;have dp:=s.fresh h.next (apv _)
     have dF:E.put (aw h.next) ⟨w.heap.size,0,0⟩ (aw h.next)=some ⟨w.heap.size,0,0⟩:=by unfold Env.put;rw [apz rfl]
     refine ⟨.pointer (some ⟨w.heap.size,0,none⟩),{w with heap:=w.heap.push (.stringIter ⟨⟨st⟩⟩ 0)},_,?_,Env.mm (p:=⟨w.heap.size,0,0⟩) dp,?_,s.alloc 0 ?_⟩
     . simp only [Instr.range,Sem.run_bind,hu,Result.andThen_ok,Sem.run_pure,run_newObj]
     . simp only [Rel];exact ⟨_,dF,by simp⟩
     . exact ⟨_,dF,s.frame.size,rfl,by simp⟩
   | map da kp=>
     rw [bV] at he hu;exact akX s (hu w) aj he
   | _=>rw [bV] at he;cases he
theorem XN {ay:Fr} {E:Env} {h ab:ae} {w:World} (s:a8 ay E h w) {t u:TypeId} {x y v:V} {X Y:Value} {ty:TypeId}
 (he:(Dl P t u).run x y h=.val v ab) (aj:Rel E x X) (a6:Rel E y Y):c' ay P E w (Builtin.append_ #[t,u] ty #[X,Y]) v ab:=by
 unfold Dl at he;cases aE:ba P t with
 | none=>rw [aE] at he;cases he
 | some aO=>
   cases hu:ba P u with
   | none=>rw [aE,hu] at he;cases he
   | some tk=>
     rw [aE,hu] at he;simp only at he
     have main:(∀k,tk.bj≠.int k)->(match aO.bj with
      | .slice e=>match ba P e with
        | none=>(⟨fun _ _ _=>.fail⟩:zG)
        | some bd=>match bd.zero with
          | none=>⟨fun _ _ _=>.fail⟩
          | some z=>bif Nat.ble 1 bd.size&&Nat.ble bd.bytes 4096&&Nat.beq z.cells.length bd.size then ⟨jZ bd.size⟩ else ⟨fun _ _ _=>.fail⟩
      | _=>⟨fun _ _ _=>.fail⟩).run x y h=.val v ab->c' ay P E w (Builtin.append_ #[t,u] ty #[X,Y]) v ab:=by
      intro q_ he;cases bV:aO.bj with
      | slice e=>
        rw [bV] at he;simp only at he;cases cl:ba P e with
        | none=>rw [cl] at he;cases he
        | some bd=>
          rw [cl] at he;simp only at he;cases bk:bd.zero with
          | none=>rw [bk] at he;cases he
          | some z=>
            rw [bk] at he;simp only at he;cases ao:(Nat.ble 1 bd.size&&Nat.ble bd.bytes 4096&&Nat.beq z.cells.length bd.size) with
            | false=>rw [ao] at he;cases he
            | true=>
              rw [ao] at he;simp only [apu] at he;simp only [apq,apE,apV] at ao;obtain ⟨ly,wq,_,oT⟩:=tr (P:=P) (E:=E) cl bk w;refine XO s ⟨fun w=>?_,⟨tk.bj,fun w=>fk hu w,q_⟩,fun w=>jS cl w,fun w=>Gi cl w,⟨ly,wq,by rw [oT];exact ao.2⟩,ao.1.1,ao.1.2⟩ he aj a6;have:=fk aE w;rw [bV] at this;exact this
      | _=>rw [bV] at he;cases he
     cases um:tk.bj with
     | int k=>
       rw [um] at he;simp only at he;cases bV:aO.bj with
       | slice e=>
         rw [bV] at he;simp only at he;cases cl:ba P e with
         | none=>rw [cl] at he;cases he
         | some bd=>
           rw [cl] at he;simp only at he;cases bk:bd.zero with
           | none=>rw [bk] at he;cases he
           | some z=>
             rw [bk] at he;simp only at he;cases ao:(Nat.ble 1 bd.size&&Nat.ble bd.bytes 4096&&Nat.beq z.cells.length bd.size) with
             | false=>rw [ao] at he;cases he
             | true=>
               rw [ao] at he;simp only [apu] at he;simp only [apq,apE,apV] at ao;obtain ⟨ly,wq,J8,oT⟩:=tr (P:=P) (E:=E) cl bk w;have yC:∀w,(underlying t).run P w=.ok (.slice e) w:=fun w=>by have:=fk aE w;rw [bV] at this;exact this
               have J2:∀w,(underlying u).run P w=.ok (.int k) w:=fun w=>by have:=fk hu w;rw [um] at this;exact this
               have H:Hq P t u e bd.size bd.bytes k ly:=⟨yC,J2,fun w=>jS cl w,fun w=>Gi cl w,wq,by rw [oT];exact ao.2,ao.1.1,ao.1.2⟩;unfold Dm at he
               split at he
               case h_2=>cases he
               rename_i cT m
               split at he
               case h_2=>cases he
               rename_i n;obtain ⟨oM,bs⟩:=j0 he;simp only [apq,apE] at oM;have aB:=tR oM.1;subst aB;simp only [Rel] at a6;subst a6;have uj:=zg J8 n;have hlen:(im z.cells n).length=n * bd.size:=by rw [<-uj.length];simp [Builtin.zeroCells,oT,ao.2]
               exact XP s ao.1.1 uj hlen (by have:=oM.2;unfold top;omega) (fun w' A c0 fl a b c=>alr H oM.2 a b c) (fun A c0 fl bG a b c d f=>als H oM.2 A c0 fl bG a b c d f) bs aj
       | _=>rw [bV] at he;cases he
     | _=>rw [um] at he;exact main (by rw [um];simp) he
theorem aai {ay:Fr} {E:Env} {h ab:ae} {w:World} (s:a8 ay E h w) {t:TypeId} {rest:List TypeId} {x y v:V} {X Y:Value} {ty:TypeId}
 (he:(DF P t).run x y h=.val v ab) (aj:Rel E x X) (a6:Rel E y Y):c' ay P E w (Builtin.copy_ (t::rest).toArray ty #[X,Y]) v ab:=by
 unfold DF at he;cases aE:ba P t with
 | none=>rw [aE] at he;cases he
 | some aO=>
   rw [aE] at he;simp only at he;cases bV:aO.bj with
   | slice e=>
     rw [bV] at he;simp only at he;cases cl:ba P e with
     | none=>rw [cl] at he;cases he
     | some bd=>
       rw [cl] at he;simp only at he;exact aaj s (fun w=>by have:=fk aE w;rw [bV] at this;exact this) (fun w=>jS cl w) he aj a6
   | _=>rw [bV] at he;cases he
theorem ZX {ay:Fr} {E:Env} {h ab:ae} {w:World} (s:a8 ay E h w) {t:TypeId} {x v:V} {X:Value} {ty:TypeId} {z:List V} (ao:Ax P t=some z)
 (he:DE z x h=.val v ab) (aj:Rel E x X):c' ay P E w (Builtin.clear_ #[t] ty #[X]) v ab:=by
 unfold Ax at ao;cases aE:ba P t with
 | none=>rw [aE] at ao;cases ao
 | some aO=>
   rw [aE] at ao;simp only at ao;cases bV:aO.bj with
   | slice e=>
     rw [bV] at ao;simp only at ao;cases cl:ba P e with
     | none=>rw [cl] at ao;cases ao
     | some bd=>
       rw [cl] at ao;simp only at ao;cases bk:bd.zero with
       | none=>rw [bk] at ao;cases ao
       | some z0=>
         rw [bk] at ao;simp only [aps] at ao;subst ao;have hu:∀w,(underlying t).run P w=.ok (.slice e) w:=fun w=>by have:=fk aE w;rw [bV] at this;exact this
         obtain ⟨z,mf,J8,Sd⟩:=tr (P:=P) (E:=E) cl bk w;have nothing:∀a c,X=.slice a 0 c->v=.tuple []->ab=h->c' ay P E w (Builtin.clear_ #[t] ty #[X]) v ab:=by
          intro a c dh bs a';subst dh bs a';refine ⟨.tuple #[],w,E,?_,Env.le.refl E,?_,s⟩
          . cases a<;>simp [Builtin.clear_,Sem.run_bind,hu,Result.andThen_ok,Sem.run_pure]
          . simp only [Rel];exact ⟨_,rfl,rfl⟩
         have U_:∀(b:aL) (off n c:Nat) (p:jb),E b=some p->X=.slice (some ⟨p.aW,p.base+off,none⟩) n c->(bif Nat.beq n 0 then (a7.val (.tuple []) h) else (match lay h b off (im z0.cells n) with
          | some ab=>a7.val (.tuple []) ab
          | none=>.fail))=.val v ab->c' ay P E w (Builtin.clear_ #[t] ty #[X]) v ab:=by
          intro b off n c p af dh he;cases n with
          | zero=>
            simp only [ari,apu,a7.val.injEq] at he;exact nothing _ _ dh he.1.symm he.2.symm
          | succ n=>
            simp only [show Nat.beq (n+1) 0=false from rfl,apA] at he;cases aA:lay h b off (im z0.cells (n+1)) with
            | none=>rw [aA] at he;cases he
            | some aa=>
              rw [aA] at he;simp only [a7.val.injEq] at he;obtain ⟨rfl,rfl⟩:=he;obtain ⟨w',g1,g2⟩:=yK (P:=P) s (zg J8 (n+1)) aA af;subst dh;refine ⟨.tuple #[],w',E,?_,Env.le.refl E,?_,g2⟩
              . simp only [Builtin.clear_,Sem.run_bind,List.getElem?_toArray,apK,hu,mf,Result.andThen_ok];have:(storeCells ⟨p.aW,p.base+off,none⟩ (Builtin.zeroCells z.cells (n+1)).toList).run P w=.ok () w':=g1;simp [this,Sem.run_pure,Result.andThen_ok]
              . simp only [Rel];exact ⟨_,rfl,rfl⟩
         unfold DE at he;cases x<;>simp only at he<;>try (cases he;done)
         . simp only [Rel] at aj;obtain ⟨p,g1,g2,g3⟩:=aj;exact U_ _ _ _ _ p g1 g3 he
         . simp only [Rel] at aj;obtain ⟨p,g1,g2,g3⟩:=aj;exact U_ _ _ _ _ p g1 g3 he
         . simp only [Rel] at aj;obtain ⟨a,c,rfl⟩:=aj;simp only [a7.val.injEq] at he;exact nothing _ _ rfl he.1.symm he.2.symm
         . simp only [Rel] at aj;simp only [a7.val.injEq] at he;exact nothing _ _ aj he.1.symm he.2.symm
   | _=>rw [bV] at ao;cases ao
theorem ZB {E:Env} {t:TypeId} {aO:nC} {x v:V} {X:Value} {ty:TypeId} (aE:ba P t=some aO) (aZ:BF aO.bj=true) (he:tN x=some v) (aj:Rel E x X) (w:World):
 ∃Z,(Builtin.cap_ #[t] ty #[X]).run P w=.ok Z w/\Rel E v Z:=by
 cases bV:aO.bj with
 | slice e=>
   have hu:∀w,(underlying t).run P w=.ok (.slice e) w:=fun w=>by have:=fk aE w;rw [bV] at this;exact this
   cases x<;>simp only [tN] at he<;>try (cases he;done)
   . simp only [Rel] at aj;obtain ⟨p,_,_,rfl⟩:=aj;cases he;refine ⟨_,?_,rfl⟩;simp [Builtin.cap_,Sem.run_bind,hu,Result.andThen_ok,Sem.run_pure];rfl
   . simp only [Rel] at aj;subst aj;cases he;refine ⟨_,?_,rfl⟩;simp [Builtin.cap_,Sem.run_bind,hu,Result.andThen_ok,Sem.run_pure];rfl
 | _=>rw [bV] at aZ;cases aZ
theorem Cy {α:Type} (a:Array α):a.toList.toArray=a:=by simp
theorem Yv {ay:Fr} {E:Env} {h ab:ae} {w:World} (s:a8 ay E h w) {b:Builtin} {bq:Array TypeId} {args:List V} {xs:List Value} {v:V} {ty:TypeId} {cs:Array Bool} (aA:bf E args xs)
 (he:(qK P b bq.toList).run args h=.val v ab):∃m:Sem Value,Go.builtin b bq ty cs xs.toArray=(do pure (.value (<-m)))/\c' ay P E w m v ab:=by
 have one:∀{x:V},bf E [x] xs->∃X,xs=[X]/\Rel E x X:=by intro x h;simp only [bf] at h;obtain ⟨y,cp,rfl,a6,rfl⟩:=h;exact ⟨y,rfl,a6⟩
 have two:∀{x y:V},bf E [x,y] xs->∃X Y,xs=[X,Y]/\Rel E x X/\Rel E y Y:=by intro x y h;simp only [bf] at h;obtain ⟨X,_,rfl,dh,Y,_,rfl,ff,rfl⟩:=h;exact ⟨X,Y,rfl,dh,ff⟩
 cases b<;>simp only [qK] at he<;>try (simp [fH.none] at he;done)
 . -- append
   cases fz:bq.toList with
   | nil=>rw [fz] at he;simp [fH.none] at he
   | cons t tj=>
     rw [fz] at he;cases tj with
     | nil=>simp [fH.none] at he
     | cons u amJ=>
       cases amJ with
       | cons _ _=>simp [fH.none] at he
       | nil=>
         simp only at he
         match args,he,aA with
         | [x,y],he,aA=>
           obtain ⟨X,Y,rfl,dh,ff⟩:=two aA;have e:bq=#[t,u]:=by rw [<-Cy bq,fz]
           exact ⟨_,rfl,by rw [e];exact XN s he dh ff⟩
         | [],he,_=>cases he
         | [_],he,_=>cases he
         | _::_::_::_,he,_=>cases he
 . -- cap
   cases fz:bq.toList with
   | nil=>rw [fz] at he;simp [fH.none] at he
   | cons t tj=>
     rw [fz] at he;cases tj with
     | cons _ _=>simp [fH.none] at he
     | nil=>
       simp only at he;cases aE:ba P t with
       | none=>rw [aE] at he;simp [fH.none] at he
       | some aO=>
         rw [aE] at he;simp only at he;cases aZ:BF aO.bj with
         | false=>rw [aZ] at he;simp [fH.none] at he
         | true=>
           rw [aZ] at he;simp only [apu] at he
           match args,he,aA with
           | [x],he,aA=>
             obtain ⟨X,rfl,dh⟩:=one aA;have e:bq=#[t]:=by rw [<-Cy bq,fz]
             obtain ⟨d',rfl⟩:=a7.il he;obtain ⟨Z,eP,cQ⟩:=ZB (P:=P) (ty:=ty) aE aZ d' dh w;exact ⟨_,rfl,by rw [e];exact c'.plain s eP cQ⟩
           | [],he,_=>cases he
           | _::_::_,he,_=>cases he
 . -- clear
   cases fz:bq.toList with
   | nil=>rw [fz] at he;simp [fH.none] at he
   | cons t tj=>
     rw [fz] at he;cases tj with
     | cons _ _=>simp [fH.none] at he
     | nil=>
       simp only at he;cases ao:Ax P t with
       | none=>rw [ao] at he;simp [fH.none] at he
       | some z=>
         rw [ao] at he;simp only at he
         match args,he,aA with
         | [x],he,aA=>
           obtain ⟨X,rfl,dh⟩:=one aA;have e:bq=#[t]:=by rw [<-Cy bq,fz]
           exact ⟨_,rfl,by rw [e];exact ZX s ao he dh⟩
         | [],he,_=>cases he
         | _::_::_,he,_=>cases he
 . -- copy
   cases fz:bq.toList with
   | nil=>rw [fz] at he;simp [fH.none] at he
   | cons t tj=>
     rw [fz] at he;simp only at he
     match args,he,aA with
     | [x,y],he,aA=>
       obtain ⟨X,Y,rfl,dh,ff⟩:=two aA;have e:bq=(t::tj).toArray:=by rw [<-Cy bq,fz]
       exact ⟨_,rfl,by rw [e];exact aai s he dh ff⟩
     | [],he,_=>cases he
     | [_],he,_=>cases he
     | _::_::_::_,he,_=>cases he
 . -- len
   cases fz:bq.toList with
   | nil=>rw [fz] at he;simp [fH.none] at he
   | cons t tj=>
     rw [fz] at he;cases tj with
     | cons _ _=>simp [fH.none] at he
     | nil=>
       simp only at he;cases aE:ba P t with
       | none=>rw [aE] at he;simp [fH.none] at he
       | some aO=>
         rw [aE] at he;simp only at he
         match args,he,aA with
         | [x],he,aA=>
           obtain ⟨X,rfl,dh⟩:=one aA;have e:bq=[t].toArray:=by rw [<-Cy bq,fz]
           cases hm:uy aO.bj with
           | true=>
             rw [hm] at he;exact ⟨_,rfl,by rw [e];exact ail s aE hm dh ty [] he⟩
           | false=>
             rw [hm] at he;simp only [apA] at he;obtain ⟨d',rfl⟩:=a7.il he;obtain ⟨Z,eP,cQ⟩:=aim (P:=P) aE d' dh ty [] w;exact ⟨_,rfl,by rw [e];exact c'.plain s eP cQ⟩
         | [],he,_=>cases hm:uy aO.bj<;>rw [hm] at he<;>cases he
         | _::_::_,he,_=>cases hm:uy aO.bj<;>rw [hm] at he<;>cases he
 . -- max
   obtain ⟨d',rfl⟩:=a7.il he;clear he;cases args with
   | nil=>cases d'
   | cons x args=>
     simp only [kN] at d';obtain ⟨k,a,rfl,aa⟩:=jO d';simp only [bf] at aA;obtain ⟨X,cp,rfl,dh,aA⟩:=aA;have:=dh.iC;subst this;obtain ⟨Z,eP,cQ⟩:=Le (P:=P) false args cp k a v aA aa w;exact ⟨_,rfl,c'.plain (Z:=Z) s (by simpa [Builtin.max_] using eP) cQ⟩
 . -- min
   obtain ⟨d',rfl⟩:=a7.il he;clear he;cases args with
   | nil=>cases d'
   | cons x args=>
     simp only [kN] at d';obtain ⟨k,a,rfl,aa⟩:=jO d';simp only [bf] at aA;obtain ⟨X,cp,rfl,dh,aA⟩:=aA;have:=dh.iC;subst this;obtain ⟨Z,eP,cQ⟩:=Le (P:=P) true args cp k a v aA aa w;exact ⟨_,rfl,c'.plain (Z:=Z) s (by simpa [Builtin.min_] using eP) cQ⟩
end
section
variable {P:Program}
def ec (P:Program):Prop:=∀(f:FuncId) (fn:Func),P.funcs[f]? =some fn->(fn.name == "runtime.NumGoroutine")=false
theorem uV (bE:ec P) {f:FuncId} {fn:Func} (av:P.funcs[f]? =some fn) (ah:fn.body.isSome=true) (args:Array Value) (w:World):(callFunc f args).run P w=.ok (.enter f args) w:=by
 have gW:fn.body.isNone=false:=by cases h:fn.body with | none=>rw [h] at ah;cases ah | some c=>rfl
 simp only [callFunc,Sem.run_bind,run_program,Result.andThen_ok,av];rw [apw (by rw [bE f fn av];simp)];simp [gW]
theorem KG {α β:Type} (f:α->β) (a:Array α):a.map f=(a.toList.map f).toArray:=by apply aq9;simp
theorem Lb (ρ:Operand->Value) (bn:Array (Nat × Operand)):(bn.map fun (i,x)=>(i,ρ x))=(bn.toList.map fun (i,x)=>(i,ρ x)).toArray:=by apply aq9;simp
theorem X3 {E:Env} {t u4:TypeId} {aO:nC} {ok:Bool} {x v:V} {X:Value} (aE:ba P t=some aO) (ah:Nat.beq (eT aO.bj) 5=false) (aj:Rel E x X)
 (he:An t aO.zero ok x=some v) (w:World):∃Z,(Instr.typeAssert X u4 t ok).run P w=.ok Z w/\Rel E v Z:=by
 have hu:=fk aE w;have q_:∀ms,aO.bj≠.interface ms:=fun ms e=>by rw [e] at ah;simp [eT] at ah
 have zero:∀z,aO.zero=some z->∃x,(zeroValue t).run P w=.ok x w/\Rel E z x:=fun z bk=>by obtain ⟨x,aa,ad,_⟩:=zm (P:=P) aE bk E w;exact ⟨x,aa,ad⟩
 unfold An at he;cases x<;>simp only at he<;>try (cases he;done)
 case iface u y=>
  simp only [Rel] at aj;obtain ⟨Y,rfl,ff⟩:=aj;rw [hi] at he;by_cases yC:u=t
  . rw [apz yC] at he;simp only [aps] at he;subst yC;cases ok with
    | true=>
      simp only [apu] at he;subst he;refine ⟨.tuple #[Y,.bool true],?_,by simp only [Rel,bf];exact ⟨_,rfl,_,_,rfl,ff,_,_,rfl,rfl,rfl⟩⟩;simp only [Instr.typeAssert,Sem.run_bind,hu,Result.andThen_ok];cases bV:aO.bj<;>first
       | exact absurd bV (q_ _)
       | (simp only [ap3];rfl)
    | false=>
      simp only [apA] at he;subst he;refine ⟨Y,?_,ff⟩;simp only [Instr.typeAssert,Sem.run_bind,hu,Result.andThen_ok];cases bV:aO.bj<;>first
       | exact absurd bV (q_ _)
       | (simp only [ap3];rfl)
  . rw [apw yC] at he;cases ok with
    | false=>cases he
    | true=>
      simp only [apu] at he;cases bk:aO.zero with
      | none=>rw [bk] at he;cases he
      | some z=>
        rw [bk] at he;simp only [aps] at he;subst he;obtain ⟨bm,bJ,z2⟩:=zero z bk;refine ⟨.tuple #[bm,.bool false],?_,by simp only [Rel,bf];exact ⟨_,rfl,_,_,rfl,z2,_,_,rfl,rfl,rfl⟩⟩;simp only [Instr.typeAssert,Sem.run_bind,hu,Result.andThen_ok];cases bV:aO.bj<;>first
         | exact absurd bV (q_ _)
         | (simp only [apw yC,ap3,Sem.run_bind,bJ,Result.andThen_ok];rfl)
 case nilIface=>
  simp only [Rel] at aj;subst aj;cases ok with
  | false=>cases he
  | true=>
    simp only [apu] at he;cases bk:aO.zero with
    | none=>rw [bk] at he;cases he
    | some z=>
      rw [bk] at he;simp only [aps] at he;subst he;obtain ⟨bm,bJ,z2⟩:=zero z bk;refine ⟨.tuple #[bm,.bool false],?_,by simp only [Rel,bf];exact ⟨_,rfl,_,_,rfl,z2,_,_,rfl,rfl,rfl⟩⟩;simp only [Instr.typeAssert,Sem.run_bind,hu,Result.andThen_ok];cases bV:aO.bj<;>first
       | exact absurd bV (q_ _)
       | (simp only [ap3,Sem.run_bind,bJ,Result.andThen_ok];rfl)
def gJ (P:Program) (call:dO):Prop:=∀f args h v ab,call f args h=.val v ab->True
theorem PB {rd:Option Nat} {ay:Fr} {E:Env} {h ab:ae} {w:World} {call:dO} (bE:ec P) (cb:gq P call) (dC:gJ P call) {o:Oper} {aq:Nat} {r:bC} {a:Act} {v:V}
 (he:(e' P o).run call r h=.val v ab) (k:RegRel0 E aq r a) (s:a8 ay E h w) {K:Act->World->Prop} {Q:Exit->Act->World->Prop}
 (dE:∀ar x w',E.le ar->Rel ar v x->a8 ay ar ab w'->K (a.put o.dst x) w'):o.wpIn (b4 rd) 0 P a w K Q:=by
 obtain ⟨dst,op,type,pos,after,guard⟩:=o;cases op<;>simp only [e'] at he<;>try (simp [dn.none] at he;done)
 case move x=>
  simp only [a7.val.injEq] at he;obtain ⟨rfl,rfl⟩:=he;exact fL (m:=pure (a.eval x)) rfl (c'.plain s rfl (dx k x)) dE
 case assign x=>
  simp only [a7.val.injEq] at he;obtain ⟨rfl,rfl⟩:=he;exact fL (m:=pure (a.eval x)) rfl (c'.plain s rfl (dx k x)) dE
 case pick c x y=>
  have ao:=dx k c;generalize (bS c).run r=L9 at he ao;cases L9<;>simp only at he<;>try (cases he;done)
  rename_i t;simp only [a7.val.injEq] at he;obtain ⟨rfl,rfl⟩:=he;simp only [Rel] at ao;refine fL (m:=do pure (if <-asBool (a.eval c) then a.eval x else a.eval y)) (by simp only [execOp,bind_assoc,pure_bind]) (c'.plain (Z:=if t then a.eval x else a.eval y) s ?_ ?_) dE
  . rw [ao];rfl
  . cases t
    . exact dx k y
    . exact dx k x
 case alloc t=>
  cases aE:ba P t with
  | none=>rw [aE] at he;simp [dn.none] at he
  | some aO=>
    rw [aE] at he;simp only at he;cases bk:aO.zero with
    | none=>rw [bk] at he;simp [dn.none] at he
    | some z=>
      rw [bk] at he;simp only at he;cases aV:fR h z.cells with
      | none=>rw [aV] at he;cases he
      | some aa=>
        rw [aV] at he;simp only [gF,a7.val.injEq] at he;obtain ⟨rfl,rfl⟩:=he;obtain ⟨x,aj,oS,_⟩:=tr (P:=P) (E:=E) aE bk w;obtain ⟨ar,g1,g2,g3,g4⟩:=Fx (P:=P) s oS aV t;have Iw:(newRow t x.cells).run P w=.ok ⟨w.heap.size,0,none⟩ {w with heap:=w.heap.push (.cells x.cells t)}:=by simpa using g3
        have Ix:a8 ay ar aa {w with heap:=w.heap.push (.cells x.cells t)}:=by simpa using g4
        exact fL (m:=Instr.alloc t true (.tuple #[])) rfl ⟨.pointer (some ⟨w.heap.size,0,none⟩),_,ar,by simp only [Instr.alloc,Sem.run_bind,aj,Result.andThen_ok,newVar,Iw,Sem.run_pure],g1,by simp only [Rel];exact ⟨_,g2,by simp⟩,Ix⟩ dE
 case box t x=>
  obtain ⟨aG,he⟩:=j0 he;cases aV:fR h ((bS x).run r).cells with
  | none=>rw [aV] at he;cases he
  | some aa=>
    rw [aV] at he;simp only [gF,a7.val.injEq] at he;obtain ⟨rfl,rfl⟩:=he;have aA:=(dx k x).cells (fun e=>by rw [e] at aG;cases aG);obtain ⟨ar,g1,g2,g3,g4⟩:=Fx (P:=P) s aA aV t;have Iw:(newRow t (a.eval x).cells).run P w=.ok ⟨w.heap.size,0,none⟩ {w with heap:=w.heap.push (.cells (a.eval x).cells t)}:=by simpa using g3
    have Ix:a8 ay ar aa {w with heap:=w.heap.push (.cells (a.eval x).cells t)}:=by simpa using g4
    exact fL (m:=Instr.box t (a.eval x)) rfl ⟨.pointer (some ⟨w.heap.size,0,none⟩),_,ar,by simp only [Instr.box,Sem.run_bind,newVar,Iw,Result.andThen_ok,Sem.run_pure],g1,by simp only [Rel];exact ⟨_,g2,by simp⟩,Ix⟩ dE
 case build t bn=>
  obtain ⟨d',rfl⟩:=a7.il he;clear he;obtain ⟨Z,eP,cQ⟩:=Yr (P:=P) (FQ k bn.toList) d' w;refine fL (m:=Instr.build t (bn.map fun (i,x)=>(i,a.eval x))) rfl (c'.plain (Z:=Z) s ?_ cQ) dE;rw [Lb];exact eP
 case buildSlice t n bn=>
  refine fL (m:=Instr.buildSlice t n (bn.map fun (i,x)=>(i,a.eval x))) rfl ?_ dE;rw [Lb];exact Yt s (FQ k bn.toList) he
 case load t x=>
  obtain ⟨d',rfl⟩:=a7.il he;clear he;obtain ⟨Y,ff,cQ,_⟩:=S9 (P:=P) s (dx k x) d';exact fL (m:=Instr.loadAt t (a.eval x)) rfl (c'.plain s ff cQ) dE
 case store t x y=>
  cases cz:(td P t).run h ((bS x).run r) ((bS y).run r) with
  | none=>rw [cz] at he;cases he
  | some aa=>
    rw [cz] at he;simp only [gF,a7.val.injEq] at he;obtain ⟨rfl,rfl⟩:=he;obtain ⟨w',cR,jn⟩:=al8 (P:=P) s (dx k x) (dx k y) cz;refine ⟨fun _ _=>trivial,?_⟩;rw [qo (by intro c h;cases h)];have:execOp a.eval ⟨dst,.store t x y,type,pos,after,guard⟩=(do Instr.storeAt t (a.eval x) (a.eval y);pure .skip):=rfl;rw [this,Sem.run_bind,cR];exact dE E undef w' (Env.le.refl E) (by simp [Rel]) jn
 case nilCheck x=>
  obtain ⟨d',rfl⟩:=a7.il he;clear he;have aj:=dx k x;generalize (bS x).run r=xf at d' aj
  have cm:∀X,Rel E xf X->(match X with
   | .pointer none | .nilIface | .nilFunc=>(runtimePanic .nilDeref:Sem Next)
   | .func (.method name) first captured=>
     match (first[0]? :Option Value) with
     | some .nilIface=>runtimePanic .nilDeref
     | some (.iface t w)=>do
       if (<-nilAhead ((<-program).types.size+Made.depth) t w name) != some false then
        unsupported (.noEntry "op/nilCheck.the method's receiver behind this interface value is a nil pointer, or cannot be seen to be none, and the arguments act or may panic (ledger 612)")
       pure (.value (.func (.method name) first captured))
     | _=>pure (.value (.func (.method name) first captured))
   | x=>pure (.value x))=pure (.value X)/\v=xf:=by
   intro X dh;cases xf<;>simp only [uH] at d'<;>try (cases d';done)
   all_goals simp only [aps] at d'
   all_goals simp only [Rel] at dh
   . obtain ⟨p,_,rfl⟩:=dh;exact ⟨rfl,d'.symm⟩
   . rcases dh with ⟨_,_,rfl,_⟩ | ⟨_,_,_,_,_,rfl⟩<;>exact ⟨rfl,d'.symm⟩
   . obtain ⟨p,rfl,_⟩:=dh;exact ⟨rfl,d'.symm⟩
   . obtain ⟨_,p,rfl,_⟩:=dh;exact ⟨rfl,d'.symm⟩
  obtain ⟨aa,rfl⟩:=cm _ aj;exact fL (m:=pure (a.eval x)) (by simp only [execOp];rw [pure_bind];exact aa) (c'.plain s rfl aj) dE
 case binOp op t x y u=>
  obtain ⟨d',rfl⟩:=a7.il he;clear he;obtain ⟨Z,eP,cQ⟩:=Yk (P:=P) (iS:=x) (iT:=y) d' (dx k x) (dx k y) w;exact fL rfl (c'.plain s eP cQ) dE
 case unOp op t x=>
  obtain ⟨d',rfl⟩:=a7.il he;clear he;obtain ⟨Z,eP,cQ⟩:=amU (P:=P) d' (dx k x) w;exact fL (m:=Op.unary op (a.eval x)) rfl (c'.plain s eP cQ) dE
 case convert t u x=>exact fL (m:=convert t u (a.eval x)) rfl (aaf s he (dx k x)) dE
 case makeInterface t x=>
  cases aE:ba P t with
  | none=>rw [aE] at he;simp [dn.none] at he
  | some aO=>
    rw [aE] at he;simp only at he;cases ah:Nat.beq (eT aO.bj) 5 with
    | true=>rw [ah] at he;simp [dn.none] at he
    | false=>
      rw [ah] at he;simp only [apA,a7.val.injEq] at he;obtain ⟨rfl,rfl⟩:=he;refine fL (m:=Instr.makeInterface t (a.eval x)) rfl (c'.plain (Z:=.iface t (a.eval x)) s ?_ ?_) dE
      . have hu:=fk aE w;simp only [Instr.makeInterface,Sem.run_bind,hu,Result.andThen_ok];cases bV:aO.bj<;>first
         | rfl
         | (rw [bV] at ah;simp [eT] at ah)
      . simp only [Rel];exact ⟨_,rfl,dx k x⟩
 case makeFunc fn first eG=>
  cases fn<;>simp only at he<;>try (simp [dn.none] at he;done)
  rename_i f;cases av:(first.isEmpty&&!Nat.beq f dr) with
  | false=>
    rw [av] at he;simp only [apA] at he;cases jl:(eG.isEmpty&&!Nat.beq f dr) with
    | false=>rw [jl] at he;simp [dn.none] at he
    | true=>
      rw [jl] at he;simp only [apu,a7.val.injEq] at he;obtain ⟨rfl,rfl⟩:=he;simp only [apq,aqh] at jl;have Jb:f≠dr:=fun e=>by rw [e] at jl;exact absurd jl.2 (by decide)
      have I_:eG=#[]:=by simpa using jl.1
      subst I_;refine fL (m:=Instr.makeFunc (.func f) (first.map a.eval) #[]) (by simp [execOp]) (c'.plain s rfl ?_) dE;simp only [Rel];exact ⟨Jb,_,rfl,by rw [KG];simpa using qU k first.toList⟩
  | true=>
    rw [av] at he;simp only [apu,a7.val.injEq] at he;obtain ⟨rfl,rfl⟩:=he;simp only [apq,aqh] at av;have Jb:f≠dr:=fun e=>by rw [e] at av;exact absurd av.2 (by decide)
    have I_:first=#[]:=by simpa using av.1
    subst I_;refine fL (m:=Instr.makeFunc (.func f) #[] (eG.map a.eval)) (by simp [execOp]) (c'.plain s rfl ?_) dE;simp only [Rel];exact .inl ⟨Jb,_,rfl,by rw [KG];simpa using qU k eG.toList⟩
 case makeSlice t l c=>exact fL (m:=Instr.makeSlice t (a.eval l) (a.eval c)) rfl (aiM s (dx k l) (dx k c) he) dE
 case slice t x bP ax ea=>
  obtain ⟨d',rfl⟩:=a7.il he;clear he;obtain ⟨Z,eP,cQ⟩:=alV (P:=P) d' (dx k x) (FO k bP) (FO k ax) (FO k ea) w;exact fL (m:=Instr.sliceAt t (a.eval x) (bP.map a.eval) (ax.map a.eval) (ea.map a.eval)) rfl (c'.plain s eP cQ) dE
 case fieldAddr t x i=>
  obtain ⟨d',rfl⟩:=a7.il he;clear he;obtain ⟨Z,eP,cQ⟩:=abA (P:=P) d' (dx k x) w;exact fL (m:=Instr.fieldAt t (a.eval x) i) rfl (c'.plain s eP cQ) dE
 case field t x i=>
  obtain ⟨d',rfl⟩:=a7.il he;clear he;obtain ⟨Z,eP,cQ⟩:=abB (P:=P) d' (dx k x) w;exact fL (m:=Instr.field t (a.eval x) i) rfl (c'.plain s eP cQ) dE
 case indexAddr t x i=>
  obtain ⟨d',rfl⟩:=a7.il he;clear he;obtain ⟨Z,eP,cQ⟩:=afq (P:=P) d' (dx k x) (dx k i) w;exact fL (m:=Instr.indexAt t (a.eval x) (a.eval i)) rfl (c'.plain s eP cQ) dE
 case index t x i=>
  obtain ⟨d',rfl⟩:=a7.il he;clear he;obtain ⟨Z,eP,cQ⟩:=afs (P:=P) d' (dx k x) (dx k i) w;exact fL (m:=Instr.index t (a.eval x) (a.eval i)) rfl (c'.plain s eP cQ) dE
 case range t x=>exact fL (m:=Instr.range t (a.eval x)) rfl (akW s (dx k x) he) dE
 case next it yI=>
  cases yI with
  | true=>exact fL (m:=Instr.next (a.eval it) true type) rfl (ajj s (dx k it) he) dE
  | false=>exact fL (m:=Instr.next (a.eval it) false type) rfl (ajh s (dx k it) he) dE
 case entry it=>exact fL (m:=Instr.entry (a.eval it)) rfl (aa' s (dx k it) he) dE
 case lookup t x y ok=>
  obtain ⟨d',rfl⟩:=a7.il he;clear he;obtain ⟨Z,eP,cQ⟩:=aiF (P:=P) s (dx k x) (dx k y) d';exact fL (m:=Instr.lookup t (a.eval x) (a.eval y) ok) rfl (c'.plain s eP cQ) dE
 case mapEntry t m y=>exact fL (m:=Instr.mapEntry t (a.eval m) (a.eval y)) rfl (aiP s (dx k m) (dx k y) he) dE
 case entryStore t m st x=>
  cases cz:qP h ((bS m).run r) ((bS st).run r) ((bS x).run r) with
  | none=>rw [cz] at he;cases he
  | some aa=>
    rw [cz] at he;simp only [gF,a7.val.injEq] at he;obtain ⟨rfl,rfl⟩:=he;obtain ⟨w',cR,jn⟩:=aa9 (P:=P) (t:=t) s (dx k m) (dx k st) (dx k x) cz;refine ⟨fun _ _=>trivial,?_⟩;rw [qo (by intro c h;cases h)];have:execOp a.eval ⟨dst,.entryStore t m st x,type,pos,after,guard⟩=(do Instr.entryStore t (a.eval m) (a.eval st) (a.eval x);pure .skip):=rfl;rw [this,Sem.run_bind,cR];exact dE E undef w' (Env.le.refl E) (by simp [Rel]) jn
 case mapUpdate t m y x=>
  cases cz:(pa P t).run h ((bS m).run r) ((bS y).run r) ((bS x).run r) with
  | none=>rw [cz] at he;cases he
  | some aa=>
    rw [cz] at he;simp only [gF,a7.val.injEq] at he;obtain ⟨rfl,rfl⟩:=he;obtain ⟨w',cR,jn⟩:=VJ (P:=P) s (dx k m) (dx k y) (dx k x) cz;refine ⟨fun _ _=>trivial,?_⟩;rw [qo (by intro c h;cases h)];have:execOp a.eval ⟨dst,.mapUpdate t m y x,type,pos,after,guard⟩=(do Instr.mapUpdate t (a.eval m) (a.eval y) (a.eval x);pure .skip):=rfl;rw [this,Sem.run_bind,cR];exact dE E undef w' (Env.le.refl E) (by simp [Rel]) jn
 case insert t m y x=>
  cases cz:(pa P t).run h ((bS m).run r) ((bS y).run r) ((bS x).run r) with
  | none=>rw [cz] at he;cases he
  | some aa=>
    rw [cz] at he;simp only [gF,a7.val.injEq] at he;obtain ⟨rfl,rfl⟩:=he;obtain ⟨w',cR,jn⟩:=VJ (P:=P) s (dx k m) (dx k y) (dx k x) cz;refine ⟨fun _ _=>trivial,?_⟩;rw [qo (by intro c h;cases h)];have:execOp a.eval ⟨dst,.insert t m y x,type,pos,after,guard⟩=(do Instr.mapUpdate t (a.eval m) (a.eval y) (a.eval x);pure .skip):=rfl;rw [this,Sem.run_bind,cR];exact dE E undef w' (Env.le.refl E) (by simp [Rel]) jn
 case makeMap t x=>exact fL (m:=Instr.makeMap t (x.map a.eval)) rfl (aiL s (FO k x) he) dE
 case panic x=>
  exfalso;unfold La at he
  split at he<;>cases he
 case typeAssert x u4 t ok=>
  cases aE:ba P t with
  | none=>rw [aE] at he;simp [dn.none] at he
  | some aO=>
    rw [aE] at he;simp only at he;cases ah:Nat.beq (eT aO.bj) 5 with
    | true=>rw [ah] at he;simp [dn.none] at he
    | false=>
      rw [ah] at he;simp only [apA] at he;obtain ⟨d',rfl⟩:=a7.il he;clear he;obtain ⟨Z,eP,cQ⟩:=X3 aE ah (u4:=u4) (dx k x) d' w;exact fL (m:=Instr.typeAssert (a.eval x) u4 t ok) rfl (c'.plain s eP cQ) dE
 case extract x i=>
  have aj:=dx k x;generalize (bS x).run r=xf at he aj;cases xf<;>simp only at he<;>try (cases he;done)
  obtain ⟨d',rfl⟩:=a7.il he;clear he;simp only [Rel] at aj;obtain ⟨arr,dh,aA⟩:=aj;obtain ⟨y,a6,cQ⟩:=aA.get i v d';refine fL (m:=Instr.extract (a.eval x) i) rfl (c'.plain (Z:=y) s ?_ cQ) dE;rw [dh];have:arr[i]? =some y:=by simpa using a6
  simp only [Instr.extract,this,Sem.run_pure]
 case call c=>
  obtain ⟨callee,args,types⟩:=c;cases callee with
  | invoke _ _=>simp [sc,dn.none] at he
  | builtin b=>
    simp only [sc] at he;obtain ⟨cs,ic⟩:∃cs,execOp a.eval ⟨dst,.call ⟨.builtin b,args,types⟩,type,pos,after,guard⟩=Go.builtin b types type cs (args.map a.eval):=by simp only [execOp,resolve,pure_bind,invoke];exact ⟨_,rfl⟩
    obtain ⟨m,hm,aG⟩:=Yv (P:=P) (ty:=type) (cs:=cs) s (qU k args.toList) he;refine fL (m:=m) ?_ aG dE;rw [ic,<-hm,KG]
  | value f=>
    simp only [sc] at he;have av:=dx k f;generalize aeY:(bS f).run r=xc at he av;cases xc<;>simp only [V.y5] at he<;>try (cases he;done)
    rotate_left
    . rename_i g cs;simp only [Rel] at av;refine ⟨fun _ _=>trivial,?_⟩;rw [qo (by intro c h;cases h)];obtain ⟨aG,first,dh,aA⟩:=av;have nL:=bf.append aA (qU k args.toList);have oM:=cb.fn _ _ _ _ _ _ aG he E w _ nL s;have hex:execOp a.eval ⟨dst,.call ⟨.value f,args,types⟩,type,pos,after,guard⟩=callFunc g (first++args.map a.eval):=by
       simp only [execOp,resolve,dh,Deferred.ofValue,pure_bind,invoke];simp
      have e:first++args.map a.eval=(first.toList++args.toList.map a.eval).toArray:=by apply aq9;simp
      rw [hex,e];rcases oM with ⟨⟨fn,ho,ah⟩,ao⟩ | ⟨ar,x,w',aC,ak,al,aI⟩
      case inr=>
       rw [aC];exact dE ar x w' ak al aI
      rw [uV bE ho ah];refine ⟨fun h=>by simp at h,sf.2 (ao.mono fun e w' az=>?_)⟩;obtain ⟨ar,x,rfl,ak,al,aI⟩:=az;exact dE ar x w' ak al aI
    rename_i g cs;simp only [Rel] at av;refine ⟨fun _ _=>trivial,?_⟩;rw [qo (by intro c h;cases h)];rcases av with ⟨aG,eG,dh,aA⟩ | ⟨aG,b,p,ic,af,dh⟩
    . have nL:=(qU k args.toList).append aA;have oM:=cb.fn _ _ _ _ _ _ aG he E w _ nL s;have hex:execOp a.eval ⟨dst,.call ⟨.value f,args,types⟩,type,pos,after,guard⟩=callFunc g (args.map a.eval++eG):=by
       simp only [execOp,resolve,dh,Deferred.ofValue,pure_bind,invoke];simp
      have e:args.map a.eval++eG=(args.toList.map a.eval++eG.toList).toArray:=by apply aq9;simp
      rw [hex,e];rcases oM with ⟨⟨fn,ho,ah⟩,ao⟩ | ⟨ar,x,w',aC,ak,al,aI⟩
      case inr=>
       rw [aC];exact dE ar x w' ak al aI
      rw [uV bE ho ah];refine ⟨fun h=>by simp at h,sf.2 (ao.mono fun e w' az=>?_)⟩;obtain ⟨ar,x,rfl,ak,al,aI⟩:=az;exact dE ar x w' ak al aI
    . subst aG ic;obtain ⟨qV,tmps,assign,body,ak,al⟩:=cb.V2 _ _ _ _ _ _ he E w _ p (qU k args.toList) s af;have hex:execOp a.eval ⟨dst,.call ⟨.value f,args,types⟩,type,pos,after,guard⟩=Instr.yield p.aW (args.map a.eval):=by
       simp only [execOp,resolve,dh,Deferred.ofValue,pure_bind,invoke];simp
      have e:args.map a.eval=(args.toList.map a.eval).toArray:=by apply aq9;simp
      rw [hex,e,ak];refine ⟨fun h=>by simp at h,RoundIn.mono al fun e w' az=>?_⟩;obtain ⟨ar,x,rfl,bM,dc,ct⟩:=az;exact dE ar x w' bM dc ct
end
section
variable {P:Program}
theorem IC {E:Env} {aq:Nat} {r:bC} {a:Act} (k:RegRel0 E aq r a) {all:Array Oper} {j:Nat} {g:Oper} {d:Nat} (bp:all[j]? =some g) (aH:g.dst=some d) (adu:d<aq) (vO:d<=top):
 (∀b,T.get .bad (aw d) r=.bool b->yielded all a.tmps j=some b)/\(∀ag,T.get .bad (aw d) r=.tuple ag->yielded all a.tmps j=none):=by
 have aC:=k.au d vO;have aR:d<a.tmps.size:=by rw [k.size];exact adu
 have he:a.tmps[d]? =some (a.tmps.getD d undef):=by simp [apQ,aR]
 refine ⟨fun b ah=>?_,fun ag ah=>?_⟩
 . rw [ah] at aC;simp only [Rel] at aC;simp only [yielded,bp,Option.bind,aH,he,aC]
 . rw [ah] at aC;simp only [Rel] at aC;obtain ⟨arr,aC,_⟩:=aC;simp only [yielded,bp,Option.bind,aH,he,aC]
theorem Py {rd:Option Nat} {ay:Fr} {E:Env} {h ab:ae} {w:World} {call:dO} (bE:ec P) (cb:gq P call) {o:Oper} {aq:Nat} {r:bC} {a:Act} {v:V} (hm:lM o.op=true)
 (he:(e' P o).run call r h=.cK v ab) (k:RegRel0 E aq r a) (s:a8 ay E h w) {K:Act->World->Prop} {Q:Exit->Act->World->Prop}
 (cy:∀ar x w',E.le ar->Rel ar v x->a8 ay ar ab w'->Q (.panic (qd x)) a w'):o.wpIn (b4 rd) 0 P a w K Q:=by
 obtain ⟨dst,op,type,pos,after,guard⟩:=o;cases op<;>simp only [lM] at hm<;>try (cases hm;done)
 all_goals simp only [e'] at he
 case panic x=>
  have aj:=dx k x;generalize (bS x).run r=xf at he aj;unfold La at he;cases xf<;>simp only at he<;>try (cases he;done)
  simp only [a7.cK.injEq] at he;obtain ⟨rfl,rfl⟩:=he;have Bw:=aj;simp only [Rel] at aj;obtain ⟨Y,dh,ff⟩:=aj;refine ⟨fun _ _=>trivial,?_⟩;rw [qo (by intro c h;cases h)];have hex:(execOp a.eval ⟨dst,.panic x,type,pos,after,guard⟩).run P w=.halt (.panic (a.eval x)) w:=by simp only [execOp,dh,Instr.panic,Sem.run_bind];rfl
  rw [hex];exact cy E _ w (Env.le.refl E) Bw s
 case call c=>
  obtain ⟨callee,args,types⟩:=c;cases callee<;>simp only at hm<;>try (cases hm;done)
  rename_i f;simp only [sc] at he;have av:=dx k f;generalize aeY:(bS f).run r=xc at he av;cases xc<;>simp only [V.y5] at he<;>try (cases he;done)
  rotate_left
  . rename_i g cs;simp only [Rel] at av;refine ⟨fun _ _=>trivial,?_⟩;rw [qo (by intro c h;cases h)];obtain ⟨aG,first,dh,aA⟩:=av;have nL:=bf.append aA (qU k args.toList);obtain ⟨⟨fn,ho,ah⟩,ao⟩:=cb.cK _ _ _ _ _ _ aG he E w _ nL s;have hex:execOp a.eval ⟨dst,.call ⟨.value f,args,types⟩,type,pos,after,guard⟩=callFunc g (first++args.map a.eval):=by
     simp only [execOp,resolve,dh,Deferred.ofValue,pure_bind,invoke];simp
    have e:first++args.map a.eval=(first.toList++args.toList.map a.eval).toArray:=by apply aq9;simp
    rw [hex,e,uV bE ho ah];refine ⟨fun h=>by simp at h,sf.2 (ao.mono fun e w' az=>?_)⟩;obtain ⟨ar,x,rfl,ak,al,aI⟩:=az;exact cy ar x w' ak al aI
  rename_i g cs;simp only [Rel] at av;refine ⟨fun _ _=>trivial,?_⟩;rw [qo (by intro c h;cases h)];rcases av with ⟨aG,eG,dh,aA⟩ | ⟨aG,b,p,ic,af,dh⟩
  . have nL:=(qU k args.toList).append aA;obtain ⟨⟨fn,ho,ah⟩,ao⟩:=cb.cK _ _ _ _ _ _ aG he E w _ nL s;have hex:execOp a.eval ⟨dst,.call ⟨.value f,args,types⟩,type,pos,after,guard⟩=callFunc g (args.map a.eval++eG):=by
     simp only [execOp,resolve,dh,Deferred.ofValue,pure_bind,invoke];simp
    have e:args.map a.eval++eG=(args.toList.map a.eval++eG.toList).toArray:=by apply aq9;simp
    rw [hex,e,uV bE ho ah];refine ⟨fun h=>by simp at h,sf.2 (ao.mono fun e w' az=>?_)⟩;obtain ⟨ar,x,rfl,ak,al,aI⟩:=az;exact cy ar x w' ak al aI
  . subst aG;exact absurd he (cb.V3 _ _ _ _)
def nA (ay:Fr) (E:Env) (aq:Nat) (K:Act->World->Prop) (Q:Exit->Act->World->Prop):om->Prop
 | .ok r h=>∀ar bl w',E.le ar->e8 ar aq r bl->a8 ay ar h w'->K bl w'
 | .cK v r h=>∀ar bl w' x,E.le ar->e8 ar aq r bl->Rel ar v x->a8 ay ar h w'->Q (.panic (qd x)) bl w'
 | .fail=>False
theorem nA.up {ay:Fr} {E ar:Env} (h:E.le ar) {aq:Nat} {K:Act->World->Prop} {Q:Exit->Act->World->Prop} {x:om} (k:nA ay E aq K Q x):nA ay ar aq K Q x:=by
 cases x with
 | ok r a'=>exact fun bA a w ad=>k bA a w (h.trans ad)
 | cK v r a'=>exact fun bA a w x ad=>k bA a w x (h.trans ad)
 | fail=>exact k
theorem TW {rd:Option Nat} {ay:Fr} {E:Env} {h:ae} {w:World} {call:dO} (bE:ec P) (cb:gq P call) (dC:gJ P call) {all:Array Oper} {i:Nat} {o:Oper} (ax:all[i]? =some o) {aq:Nat} {r:bC} {a:Act}
 (aH:eI aq o.dst=true) (k:e8 E aq r a) (s:a8 ay E h w) {K:Act->World->Prop} {Q:Exit->Act->World->Prop} (hw:Region.wanted o (yielded all a.tmps)=true)
 (af:nA ay E aq K Q (FN (lM o.op) (e' P o) (ft o.dst) call r h)):wpOpIn (b4 rd) 0 P all Q i K a w:=by
 simp only [wpOpIn,ax,hw,ap3];unfold FN at af;cases aU:(e' P o).run call r h with
 | fail=>rw [aU] at af;exact af.elim
 | val v aa=>
   rw [aU] at af;exact PB bE cb dC aU k.toRegRel0 s fun ar x w' ak al aI=>af ar _ w' ak ((k.mono ak).put aH al) aI
 | cK v aa=>
   rw [aU] at af;simp only at af;cases hm:lM o.op with
   | false=>rw [hm] at af;exact af.elim
   | true=>
     rw [hm] at af;exact Py bE cb hm aU k.toRegRel0 s fun ar x w' ak al aI=>af ar a w' x ak (k.mono ak) al aI
theorem VH {rd:Option Nat} {ay:Fr} {E:Env} {h:ae} {w:World} {all:Array Oper} {i:Nat} {o:Oper} (ax:all[i]? =some o) {aq:Nat} {r:bC} {a:Act}
 (aH:eI aq o.dst=true) (k:e8 E aq r a) (s:a8 ay E h w) {K:Act->World->Prop} {Q:Exit->Act->World->Prop} (hw:Region.wanted o (yielded all a.tmps)=false)
 (af:nA ay E aq K Q (.ok ((ft o.dst).run r (.tuple [])) h)):wpOpIn (b4 rd) 0 P all Q i K a w:=by
 simp only [wpOpIn,ax,hw,apH,ap9];exact ⟨fun _ _=>trivial,af E _ w (Env.le.refl E) (k.put aH (by simp only [Rel];exact ⟨#[],rfl,rfl⟩)) s⟩
theorem FM {rd:Option Nat} {ay:Fr} {E:Env} {h:ae} {w:World} {call:dO} (bE:ec P) (cb:gq P call) (dC:gJ P call) {all:Array Oper} {i:Nat} {o:Oper} (ax:all[i]? =some o) {aq:Nat} {r:bC} {a:Act}
 (aH:eI aq o.dst=true) (k:e8 E aq r a) (s:a8 ay E h w) {K:Act->World->Prop} {Q:Exit->Act->World->Prop}
 (af:nA ay E aq K Q ((y8 P aq all o).run call r h)):wpOpIn (b4 rd) 0 P all Q i K a w:=by
 unfold y8 at af;cases aG:o.guard with
 | none=>
   rw [aG] at af;exact TW bE cb dC ax aH k s (by simp [Region.wanted,aG]) af
 | some nV=>
   obtain ⟨j,want⟩:=nV;rw [aG] at af;simp only at af;cases bp:all[j]? with
   | none=>rw [bp] at af;exact af.elim
   | some g=>
     rw [bp] at af;simp only at af;cases iA:g.dst with
     | none=>rw [iA] at af;exact af.elim
     | some d=>
       rw [iA] at af;simp only at af;cases ao:(Nat.blt d aq&&Nat.ble d top) with
       | false=>rw [ao] at af;exact af.elim
       | true=>
         rw [ao] at af;simp only [apu,QW,oE] at af;simp only [apq,apR,apE] at ao;obtain ⟨g1,g2⟩:=IC k.toRegRel0 bp iA ao.1 ao.2;cases bs:T.get .bad (aw d) r<;>rw [bs] at af<;>simp only at af<;>try (exact af.elim)
         . rename_i b;have a6:=g1 b bs;cases ah:(bif want then b else !b) with
           | true=>
             rw [ah] at af;simp only [apu] at af;refine TW bE cb dC ax aH k s ?_ af;simp only [Region.wanted,aG,a6];cases want<;>cases b<;>simp_all
           | false=>
             rw [ah] at af;simp only [apA] at af;refine VH ax aH k s ?_ af;simp only [Region.wanted,aG,a6];cases want<;>cases b<;>simp_all
         . rename_i ag;have a6:=g2 ag bs;refine VH ax aH k s ?_ af;simp only [Region.wanted,aG,a6];rfl
theorem lz.list {E:Env} {v:V} {ds:List Deferred} (k:lz E v ds):ns E v.list ds:=by
 cases v<;>first
  | exact k
theorem aj8 {rd:Option Nat} {ay:Fr} {E:Env} {h:ae} {w:World} {call:dO} (bE:ec P) (cb:gq P call) (dC:gJ P call) {all:Array Oper} {i:Nat} {o:Oper} (ax:all[i]? =some o) {aq:Nat} {r:bC} {a:Act}
 (aC:rd=none\/KT o=true) (k:e8 E aq r a) (s:a8 ay E h w) {K:Act->World->Prop} {Q:Exit->Act->World->Prop}
 (af:nA ay E aq K Q ((FL P aq all o).run call r h)):wpOpIn (b4 rd) 0 P all Q i K a w:=by
 unfold FL at af;cases aH:eI aq o.dst with
 | false=>rw [aH] at af;exact af.elim
 | true=>
   rw [aH] at af;simp only [apu] at af;obtain ⟨dst,op,type,pos,after,guard⟩:=o;cases op with
   | defer c=>
     rcases aC with rfl | aC
     case inr=>cases aC
     simp only at af;cases guard with
     | some _=>exact af.elim
     | none=>
       simp only at af;obtain ⟨callee,args,types⟩:=c;simp only [PG] at af;cases callee<;>simp only at af<;>try (exact af.elim)
       rename_i f;unfold PH at af;have av:=dx k.toRegRel0 f;generalize (bS f).run r=xc at af av;cases xc<;>simp only at af<;>try (exact af.elim)
       rename_i g cs;cases a6:Nat.beq g dr with
       | true=>rw [a6] at af;exact af.elim
       | false=>
         rw [a6] at af;simp only [apA] at af;have Rw:g≠dr:=fun e=>by rw [e] at a6;exact absurd a6 (by decide)
         simp only [Rel] at av;rcases av with ⟨_,eG,dh,aA⟩ | ⟨aG,_⟩
         case inr=>exact absurd aG Rw
         simp only [wpOpIn,ax,Region.wanted,ap3];refine ⟨fun _ _=>trivial,?_⟩;have hex:((Oper.mk dst (.defer ⟨.value f,args,types⟩) type pos after none).semAt (b4 none).round a.eval).run P w=.ok (.defer {target:=.fn (.func g) eG,args:=#[]++args.map a.eval}) w:=by simp only [Oper.semAt_none,execOp,resolve,dh,Deferred.ofValue,pure_bind];rfl
         rw [hex];refine af E _ w (Env.le.refl E) (e8.put ?_ aH (by simp only [Rel];exact ⟨#[],rfl,rfl⟩)) s;refine ⟨⟨k.size,fun t aE=>?_⟩,?_⟩
         rotate_left
         . rw [T.hW,apz rfl];simp only [lz,ns];refine ⟨_,_,rfl,⟨Rw,eG,rfl,?_⟩,k.defers.list⟩;have:=(qU k.toRegRel0 args.toList).append aA;simpa using this
         . rw [T.hW,apw (fun e=>wU aE e.symm)];exact k.au t aE
   | binOp op t x y u=>
     simp only at af;cases guard with
     | some g=>exact FM bE cb dC ax aH k s af
     | none=>
       simp only at af;cases lG:wY P op t with
       | none=>rw [lG] at af;exact FM bE cb dC ax aH k s af
       | some neg=>
         rw [lG] at af;simp only [Um] at af;cases az:js h ((bS x).run r) ((bS y).run r) with
         | none=>rw [az] at af;exact FM bE cb dC ax aH k s af
         | some b=>
           rw [az] at af;simp only [wpOpIn,ax,Region.wanted,ap3];obtain ⟨Z,eP,cQ⟩:=Uk (P:=P) (iS:=x) (iT:=y) s lG az (dx k.toRegRel0 x) (dx k.toRegRel0 y);exact fL rfl (c'.plain s eP cQ) fun ar v w' ak al aI=>af ar _ w' ak ((k.mono ak).put aH al) aI
   | _=>exact FM bE cb dC ax aH k s af
theorem TX {rd:Option Nat} {ay:Fr} {call:dO} (bE:ec P) (cb:gq P call) (dC:gJ P call) {all:Array Oper} {aq:Nat} {Q:Exit->Act->World->Prop}:∀(l:List Oper) (i:Nat),(∀j,l[j]? =all[i+j]?)->(rd=none\/∀o ∈ l,KT o=true)->
 ∀(E:Env) (r:bC) (h:ae) (a:Act) (w:World),nA ay E aq (Q .normal) Q ((B' P aq all l).run call r h)->e8 E aq r a->a8 ay E h w->
 wpOpsIn (b4 rd) 0 P all Q (List.range' i l.length) a w
 | [],i,_,_,E,r,h,a,w,af,k,s=>by simp only [B'] at af;simp only [ap_,List.range'_zero,wpOpsIn];exact af E a w (Env.le.refl E) k s
 | o::os,i,aA,aC,E,r,h,a,w,af,k,s=>by
   simp only [B',U2] at af;have ax:all[i]? =some o:=by have:=aA 0;simpa using this.symm
   rw [apB,List.range'_succ,wpOpsIn_cons];refine aj8 bE cb dC ax (aC.imp id fun h=>h o (by simp)) k s ?_;cases aa:(FL P aq all o).run call r h with
   | fail=>rw [aa] at af;exact af
   | cK v bM q6=>rw [aa] at af;exact af
   | ok bM q6=>
     rw [aa] at af;simp only at af;intro ar bl w' ak al aI;refine TX bE cb dC os (i+1) (fun j=>?_) (aC.imp id fun h b2 gY=>h b2 (by simp [gY])) ar bM q6 bl w' (af.up ak) al aI;have:=aA (j+1);simp only [aqr] at this;rw [this];congr 1;omega
end
theorem Qe {a b:V} (h:DV a b=true):a=b:=by
 cases a<;>cases b<;>simp only [DV] at h<;>first
  | rfl
  | (cases h;done)
  | (rename_i x y;cases x<;>cases y<;>simp_all;done)
  | (rename_i k x l y
     simp only [apq] at h;have aa:=tR h.1;have ad:=h.2;rw [l5,aqZ] at ad;rw [aa,ad];done)
  | (rw [vp,aqZ] at h;rw [h];done)
  | (simp only [apq,apV] at h
     obtain ⟨aa,ad,aJ,bu⟩:=h;rw [aL.l5 aa,ad,aJ,bu];done)
  | (simp only [apq,apV] at h
     rw [aL.l5 h.1,h.2];done)
  | (rw [aL.l5 h];done)
  | (simp only [apq,apV,List.isEmpty_iff] at h
     obtain ⟨aa,ad,aJ⟩:=h;rw [aa,ad,aJ];done)
  | (simp only [apq,List.isEmpty_iff] at h
     rw [h.1,h.2];done)
theorem Il {f:V->V->Bool} (av:∀a b,f a b=true->a=b):∀{a b:List V},xZ f a b=true->a=b
 | [],[],_=>rfl
 | [],_::_,h=>by cases h
 | _::_,[],h=>by cases h
 | a::x,b::y,h=>by
   simp only [xZ] at h;cases aa:f a b with
   | false=>rw [aa] at h;cases h
   | true=>
     rw [aa] at h;rw [av a b aa,Il av h]
theorem Yi {c x:Bool} (h:(bif c then x else false)=true):c=true/\x=true:=by
 cases c with
 | false=>cases h
 | true=>exact ⟨rfl,h⟩
theorem Qf:∀(d:Nat) (a b:V),vz d a b=true->a=b
 | 0,a,b,h=>Qe h
 | d+1,a,b,h=>by
   have bb:=Qf d;cases a<;>simp only [vz] at h<;>first
    | exact Qe h
    | (cases b<;>simp only at h<;>first
        | (cases h;done)
        | rfl
        | (rw [Il bb h];done)
        | (obtain ⟨aa,ad⟩:=Yi h
           rw [apV] at aa;rw [aa]
           first
            | rw [Il bb ad]
            | rw [bb _ _ ad]))
theorem Im {a b:V} (h:AJ a b=true):a=b:=Qf 5 a b h
theorem Ap (m i:Nat):fC m i=m.testBit i:=by
 rw [Nat.testBit_eq_decide_div_mod_eq];unfold fC;have e:Nat.mod (Nat.shiftRight m i) 2=m / 2 ^ i % 2:=by show (m >>> i) % 2=_;rw [Nat.shiftRight_eq_div_pow]
 rw [e,aqm,apV,apF]
theorem KH {dT:List Nat} {i:Nat}:∀{es:List Edge},fC (uD dT es) i=true->∃e ∈ es,vq e=true/\(e.on=i\/fC ((dT[e.on]?).getD 0) i=true)
 | [],h=>by simp [uD,Ap] at h
 | e::es,h=>by
   simp only [uD] at h;cases ah:vq e with
   | false=>
     rw [ah] at h;obtain ⟨cC,aa,ad⟩:=KH (es:=es) h;exact ⟨cC,by simp [aa],ad⟩
   | true=>
     rw [ah] at h;simp only [apu,Ap] at h;have ab:((1 <<< e.on||| (dT[e.on]?).getD 0)||| uD dT es).testBit i=true:=h;rw [Nat.testBit_or,Nat.testBit_or,aqA,aqA] at ab;rcases ab with (aa | aa) | aa
     . refine ⟨e,by simp,ah,.inl ?_⟩;rw [Nat.testBit_shiftLeft] at aa;simp only [apq,apF] at aa;have:=aa.2;rw [Nat.testBit_one_eq_true_iff_self_eq_zero] at this;omega
     . exact ⟨e,by simp,ah,.inr (by rw [Ap];exact aa)⟩
     . rw [<-Ap] at aa;obtain ⟨cC,ak,al⟩:=KH (es:=es) aa;exact ⟨cC,by simp [ak],al⟩
def qB (ops:Array Oper) (L:Nat->Prop):Prop:=∀k o e,L k->ops[k]? =some o->e ∈ o.after.toList->vq e=true->L e.on
theorem BX {ops:Array Oper} {L:Nat->Prop} (AU:qB ops L):∀(os:List Oper) (dT:List Nat),(∀j,os[j]? =ops[dT.length+j]?)->
 (∀k m i,dT[k]? =some m->fC m i=true->L k->L i)->∀k m i,(eE dT os)[k]? =some m->fC m i=true->L k->L i
 | [],dT,_,h,k,m,i,aB,ah,df=>h k m i aB ah df
 | o::os,dT,ra,h,k,m,i,aB,ah,df=>by
   simp only [eE] at aB;refine BX AU os (dT++[uD dT o.after.toList]) (fun j=>?_) (fun k m i aB ah df=>?_) k m i aB ah df
   . have:=ra (j+1);simp only [aqr] at this;rw [this];congr 1;simp;omega
   . by_cases aR:k<dT.length
     . rw [apM aR] at aB;exact h k m i aB ah df
     . rw [apO (by omega)] at aB;have Bd:k-dT.length=0:=by
        cases bk:k-dT.length with
        | zero=>rfl
        | succ n=>rw [bk] at aB;simp at aB
       rw [Bd] at aB;simp only [apK,aps] at aB;subst aB;have EJ:k=dT.length:=by omega
       have aU:ops[k]? =some o:=by have:=ra 0;simp only [apK,aqC] at this;rw [EJ];exact this.symm
       obtain ⟨e,he,IT,hE⟩:=KH ah;have Q':=AU k o e df aU he IT;rcases hE with rfl | hE
       . exact Q'
       . cases hm:dT[e.on]? with
         | none=>rw [hm] at hE;simp [Ap] at hE
         | some dj=>rw [hm] at hE;exact h e.on dj i hm hE Q'
theorem qw {f:Nat->Nat->Oper->Bool}:∀{k:Nat} {ms:List Nat} {os:List Oper},nq f k ms os=true->∀j o,os[j]? =some o->∃m,ms[j]? =some m/\f (k+j) m o=true
 | _,_,[],_,j,o,h=>by simp at h
 | _,[],_::_,h,_,_,_=>by cases h
 | k,m::ms,b2::os,h,j,o,aU=>by
   simp only [nq,apq] at h;cases j with
   | zero=>simp only [apK,aps] at aU;subst aU;exact ⟨m,rfl,h.1⟩
   | succ j=>
     obtain ⟨dj,aa,ad⟩:=qw h.2 j o (by simpa using aU);exact ⟨dj,by simpa using aa,by rw [show k + (j+1)=k+1+j from by omega];exact ad⟩
theorem Mk {f:Nat->Nat->Oper->Bool}:∀{k:Nat} {ms:List Nat} {os:List Oper},ms.length=os.length->(∀j m o,ms[j]? =some m->os[j]? =some o->f (k+j) m o=true)->nq f k ms os=true
 | _,[],[],_,_=>rfl
 | _,[],_::_,h,_=>by simp at h
 | _,_::_,[],h,_=>by simp at h
 | k,m::ms,o::os,h,av=>by simp only [nq,apq];refine ⟨av 0 m o rfl rfl,Mk (by simpa using h) fun j dj b2 aa ad=>?_⟩;have:=av (j+1) dj b2 (by simpa using aa) (by simpa using ad);rw [show k+1+j=k + (j+1) from by omega];exact this
theorem KI:∀(os:List Oper) (dT:List Nat),(eE dT os).length=dT.length+os.length
 | [],dT=>rfl
 | o::os,dT=>by simp [eE,KI os];omega
section
variable {P:Program}
theorem PA {o:Oper} {call:dO} {r:bC} {h ab:ae} {v:V} (az:eN P o.op=false) (he:(e' P o).run call r h=.val v ab):ab=h:=by
 obtain ⟨dst,op,type,pos,after,guard⟩:=o;cases op<;>simp only [eN] at az<;>try (cases az;done)
 all_goals simp only [e'] at he
 case convert s d x=>
  unfold qM at he;cases aZ:ba P s with
  | none=>rw [aZ] at he;cases he
  | some uW=>
    cases aH:ba P d with
    | none=>rw [aH] at az;cases az
    | some oB=>
      rw [aZ,aH] at he;rw [aH] at az;simp only at he az;cases hu:oB.bj with
      | int k=>
        rw [hu] at he;obtain ⟨br,n,_,aa⟩:=s4 he;simp only [a7.val.injEq] at aa;exact aa.2.symm
      | slice e=>rw [hu] at az;cases az
      | string=>
        rw [hu] at he;simp only at he
        have other:∀x:V,(match x with
         | .str s=>a7.val (.str s) h
         | .int _ n=>.val (.str (Utf8.encode n).data.toList) h
         | _=>.fail)=.val v ab->ab=h:=by
         intro x he;cases x<;>simp only at he<;>first
          | (cases he;done)
          | (simp only [a7.val.injEq] at he;exact he.2.symm)
        cases nT:uW.bj with
        | slice e=>
          rw [nT] at he;simp only at he;cases cl:ba P e with
          | none=>rw [cl] at he;cases he
          | some bd=>
            rw [cl] at he;simp only at he;have al_:∀b off len,u0 b off len h=.val v ab->ab=h:=by
             intro b off len he;unfold u0 at he;cases aG:h.get b<;>rw [aG] at he<;>simp only [b1.o8] at he<;>try (cases he;done)
             all_goals
              obtain ⟨_,ad⟩:=j0 he;cases aeT:oa (hn _ off len)<;>rw [aeT] at ad<;>first
               | (cases ad;done)
               | (simp only [a7.val.injEq] at ad;exact ad.2.symm)
            cases eD:bd.bj with
            | int BI=>
              rw [eD] at he;cases BI<;>simp only at he<;>try (cases he;done)
              simp only [tO] at he;cases aj:(bS x).run r<;>rw [aj] at he<;>simp only at he<;>first
               | (cases he;done)
               | exact al_ _ _ _ he
               | (simp only [a7.val.injEq] at he;exact he.2.symm)
            | _=>rw [eD] at he;cases he
        | _=>rw [nT] at he;exact other _ he
      | _=>rw [hu] at he;cases he
 case call c=>
  obtain ⟨callee,args,types⟩:=c;cases callee<;>simp only at az<;>try (cases az;done)
  rename_i b;simp only [sc] at he;cases b<;>simp only at az<;>try (cases az;done)
  . simp only [qK] at he;cases fz:types.toList with
    | nil=>rw [fz] at he;simp [fH.none] at he
    | cons t bq=>
      cases bq with
      | cons _ _=>rw [fz] at he;simp [fH.none] at he
      | nil=>
        rw [fz] at he;simp only at he;cases aE:ba P t with
        | none=>rw [aE] at he;simp [fH.none] at he
        | some aO=>
          rw [aE] at he;rw [fz] at az;simp only [Kg,aE] at az;simp only [az,apA] at he
          split at he
          . exact (a7.il he).2
          . cases he
  . exact (a7.il he).2
  . exact (a7.il he).2
 case move=>simp only [a7.val.injEq] at he;exact he.2.symm
 case assign=>simp only [a7.val.injEq] at he;exact he.2.symm
 case pick c a b=>
  split at he
  . simp only [a7.val.injEq] at he;exact he.2.symm
  . cases he
 case makeFunc fn first eG=>
  cases fn<;>simp only at he<;>try (simp [dn.none] at he;done)
  rename_i f;cases av:(first.isEmpty&&!Nat.beq f dr)<;>rw [av] at he
  . simp only [apA] at he;cases jl:(eG.isEmpty&&!Nat.beq f dr)<;>rw [jl] at he
    . simp [dn.none] at he
    . simp only [apu,a7.val.injEq] at he;exact he.2.symm
  . simp only [apu,a7.val.injEq] at he;exact he.2.symm
 case typeAssert x u4 t ok=>
  cases aE:ba P t with
  | none=>rw [aE] at he;simp [dn.none] at he
  | some aO=>
    rw [aE] at he;simp only at he;cases ah:Nat.beq (eT aO.bj) 5<;>rw [ah] at he
    . exact (a7.il he).2
    . simp [dn.none] at he
 case makeInterface t x=>
  cases aE:ba P t with
  | none=>rw [aE] at he;simp [dn.none] at he
  | some aO=>
    rw [aE] at he;simp only at he;cases ah:Nat.beq (eT aO.bj) 5<;>rw [ah] at he
    . simp only [apA,a7.val.injEq] at he;exact he.2.symm
    . simp [dn.none] at he
 case extract x i=>
  split at he
  . exact (a7.il he).2
  . cases he
 all_goals exact (a7.il he).2
theorem a7.wS {h ab:ae} {x:Option V} {v:V} (he:a7.of h x=.val v ab) (H:ae):a7.of H x=.val v H:=by rw [(a7.il he).1];rfl
theorem Pz {o:Oper} {call:dO} {r:bC} {h ab:ae} {v:V} (az:eN P o.op=false) (aA:looks o.op=false) (he:(e' P o).run call r h=.val v ab) (H:ae):(e' P o).run call r H=.val v H:=by
 obtain ⟨dst,op,type,pos,after,guard⟩:=o;cases op<;>simp only [eN] at az<;>try (cases az;done)
 all_goals simp only [looks] at aA<;>try (cases aA;done)
 all_goals simp only [e'] at he ⊢
 case call c=>
  obtain ⟨callee,args,types⟩:=c;cases callee<;>simp only at az<;>try (cases az;done)
  rename_i b;simp only [sc] at he ⊢;cases b<;>simp only at az<;>try (cases az;done)
  . simp only [qK] at he ⊢;cases fz:types.toList with
    | nil=>rw [fz] at he;simp [fH.none] at he
    | cons t bq=>
      cases bq with
      | cons _ _=>rw [fz] at he;simp [fH.none] at he
      | nil=>
        rw [fz] at he;simp only at he ⊢;cases aE:ba P t with
        | none=>rw [aE] at he;simp [fH.none] at he
        | some aO=>
          rw [aE] at he;rw [fz] at az;simp only [Kg,aE] at az;simp only [az,apA] at he ⊢
          split at he
          . exact a7.wS he H
          . cases he
  . exact a7.wS he H
  . exact a7.wS he H
 case move=>simp only [a7.val.injEq] at he;rw [he.1]
 case assign=>simp only [a7.val.injEq] at he;rw [he.1]
 case pick c a b=>
  split at he
  . simp only [a7.val.injEq] at he;rw [he.1]
  . cases he
 case makeFunc fn first eG=>
  cases fn<;>simp only at he ⊢<;>try (simp [dn.none] at he;done)
  rename_i f;cases av:(first.isEmpty&&!Nat.beq f dr)<;>rw [av] at he
  . simp only [apA] at he ⊢;cases jl:(eG.isEmpty&&!Nat.beq f dr)<;>rw [jl] at he
    . simp [dn.none] at he
    . simp only [apu,a7.val.injEq] at he ⊢;exact ⟨he.1,trivial⟩
  . simp only [apu,a7.val.injEq] at he ⊢;exact ⟨he.1,trivial⟩
 case typeAssert x u4 t ok=>
  cases aE:ba P t with
  | none=>rw [aE] at he;simp [dn.none] at he
  | some aO=>
    rw [aE] at he;simp only at he ⊢;cases ah:Nat.beq (eT aO.bj) 5<;>rw [ah] at he
    . exact a7.wS he H
    . simp [dn.none] at he
 case makeInterface t x=>
  cases aE:ba P t with
  | none=>rw [aE] at he;simp [dn.none] at he
  | some aO=>
    rw [aE] at he;simp only at he ⊢;cases ah:Nat.beq (eT aO.bj) 5<;>rw [ah] at he
    . simp only [apA,a7.val.injEq] at he ⊢;exact ⟨he.1,trivial⟩
    . simp [dn.none] at he
 case extract x i=>
  split at he
  . exact a7.wS he H
  . cases he
 all_goals exact a7.wS he H
end
section
variable {P:Program}
def Hd (P:Program) (E:Env) (m:Sem Value) (v:V) (h ab:ae):Prop:=
 ∃k,ab=h.new k/\True/\∀w,∃X cF,m.run P w=.ok X {w with heap:=w.heap.push cF}/\
  ∀ar,E.le ar->ar (aw h.next)=some ⟨w.heap.size,0,0⟩->Rel ar v X/\∀B,B<=w.heap.size->fv B ar {w with heap:=w.heap.push cF} (aw h.next) k
theorem Fw {E:Env} {h ab:ae} {ag:List V} {l:List Value} (aA:bf E ag l) (he:fR h ag=some ab) (t:TypeId):
 ∃k,ab=h.new k/\True/\∀w,(newRow t l.toArray).run P w=.ok ⟨w.heap.size,0,none⟩ {w with heap:=w.heap.push (.cells l.toArray t)}/\
  ∀ar,E.le ar->ar (aw h.next)=some ⟨w.heap.size,0,0⟩->∀B,B<=w.heap.size->fv B ar {w with heap:=w.heap.push (.cells l.toArray t)} (aw h.next) k:=by
 unfold fR at he;obtain ⟨ao,he⟩:=ev he;rw [apE] at ao;cases he;refine ⟨_,rfl,trivial,fun w=>⟨by simp [newRow],fun ar hle dF B cD=>?_⟩⟩;have:=Iv (bf.mono hle _ _ aA) ao #[]
 rw [Array.append_empty] at this;exact ⟨ao,_,_,t,(0,0),dF,cD,by simp,.inr (apv _),fun _=>rfl,fun h=>absurd rfl h,this⟩
theorem Yu {E:Env} {h ab:ae} {t:TypeId} {n:Nat} {bn:List (Nat × V)} {jQ:List (Nat × Value)} {v:V} (af:r1 E bn jQ) (he:(vr P t n).run bn h=.val v ab):
 Hd P E (Instr.buildSlice t n jQ.toArray) v h ab:=by
 unfold vr at he;cases aE:ba P t with
 | none=>rw [aE] at he;cases he
 | some aO=>
   rw [aE] at he;simp only at he;have hu:=fk aE;cases bV:aO.bj with
   | slice e=>
     rw [bV] at he hu;simp only at he;cases cl:ba P e with
     | none=>rw [cl] at he;cases he
     | some bd=>
       rw [cl] at he;simp only at he;cases bk:bd.zero with
       | none=>rw [bk] at he;cases he
       | some z=>
         rw [bk] at he;simp only at he;cases ao:(Nat.ble (n * bd.size) 1000000&&Nat.beq z.cells.length bd.size) with
         | false=>rw [ao] at he;cases he
         | true=>
           rw [ao] at he;simp only [apu] at he;simp only [apq,apE,apV] at ao;cases av:mM (fun i=>some (i * bd.size,bd.size)) (im z.cells n) bn with
           | none=>rw [av] at he;cases he
           | some cs=>
             rw [av] at he;simp only at he;cases aV:fR h cs with
             | none=>rw [aV] at he;cases he
             | some aa=>
               rw [aV] at he;simp only [a7.val.injEq] at he;obtain ⟨rfl,rfl⟩:=he;obtain ⟨x,aj,oS,oT⟩:=tr (P:=P) (E:=E) cl bk ⟨#[],fun _ _=>0,0,default,#[]⟩;have sI:x.cells.size=bd.size:=by rw [oT,ao.2]
               have sH:=zg oS n;rw [sI] at sH;obtain ⟨b,kv,pL⟩:=AN (a:=(Array.range (n * bd.size)).map (x.cells[· % x.cells.size]!)) af (by rw [sI];exact sH) av;obtain ⟨k,g1,g2,g3⟩:=Fw (P:=P) pL aV e;refine ⟨k,g1,g2,fun w=>⟨.slice (some ⟨w.heap.size,0,none⟩) n n,.cells b e,?_,fun ar hle dF=>⟨?_,?_⟩⟩⟩
               . have v':¬16777216<n * bd.size:=by omega
                 have kz:(newRow e b).run P w=.ok ⟨w.heap.size,0,none⟩ {w with heap:=w.heap.push (.cells b e)}:=by simpa using (g3 w).1
                 by_cases aY:n * bd.size=0
                 . have IQ:Instr.fill (fun i=>some (i * bd.size,bd.size)) ((Array.range (n * bd.size)).map ((#[]:Array Value)[· % 0]!)) jQ=some b:=by
                    have aK:(Array.range (n * bd.size)).map ((#[]:Array Value)[· % 0]!)=(Array.range (n * bd.size)).map (x.cells[· % x.cells.size]!):=by rw [aY];simp
                    rw [aK];exact kv
                   have IS:Instr.fill (fun i=>some (i * bd.size,bd.size)) ((Array.range (n * bd.size)).map (fun x=>(#[]:Array Value)[x % (#[]:Array Value).size]!)) jQ=some b:=IQ;simp only [Instr.buildSlice,Sem.run_bind,hu,Result.andThen_ok,jS cl,Sem.run_ite];rw [apw v'];simp only [Sem.run_pure,Result.andThen_ok,apz aY];rw [IS];simp only [Sem.run_bind,kz,Result.andThen_ok,Sem.run_pure]
                 . simp only [Instr.buildSlice,Sem.run_bind,hu,Result.andThen_ok,jS cl,Sem.run_ite];rw [apw v'];simp only [Sem.run_pure,Result.andThen_ok,apw aY,aj];rw [kv];simp only [Sem.run_bind,kz,Result.andThen_ok,Sem.run_pure]
               . simp only [Rel];exact ⟨_,dF,apv _,by simp⟩
               . simpa using (g3 w).2 ar hle dF
   | _=>rw [bV] at he;cases he
theorem aiN {E:Env} {h ab:ae} {t:TypeId} {x y v:V} {X Y:Value} (aj:Rel E x X) (a6:Rel E y Y) (he:(wK P t).run x y h=.val v ab):
 Hd P E (Instr.makeSlice t X Y) v h ab:=by
 unfold wK at he;cases aE:ba P t with
 | none=>rw [aE] at he;cases he
 | some aO=>
   rw [aE] at he;simp only at he;have hu:=fk aE;cases bV:aO.bj with
   | slice e=>
     rw [bV] at he hu;simp only at he;cases cl:ba P e with
     | none=>rw [cl] at he;cases he
     | some bd=>
       rw [cl] at he;simp only at he;cases bk:bd.zero with
       | none=>rw [bk] at he;cases he
       | some z=>
         rw [bk] at he;simp only at he;cases vL:Nat.ble bd.bytes 4096 with
         | false=>rw [vL] at he;cases he
         | true=>
           rw [vL] at he;simp only [apu,uC] at he;obtain ⟨b7,l,rfl,yj⟩:=s4 he;obtain ⟨cj,c,rfl,d'⟩:=s4 yj;have:=aj.iC;subst this;have:=a6.iC;subst this;obtain ⟨ao,pO⟩:=j0 d';simp only [apq,o0,apF,apV] at ao;obtain ⟨⟨aY,aa,ad⟩,aJ⟩:=ao;rw [apE] at vL;cases aV:fR h (im z.cells c.toNat) with
           | none=>rw [aV] at pO;cases pO
           | some a'=>
             rw [aV] at pO;simp only [a7.val.injEq] at pO;obtain ⟨rfl,rfl⟩:=pO;obtain ⟨ly,wq,oS,oT⟩:=tr (P:=P) (E:=E) cl bk ⟨#[],fun _ _=>0,0,default,#[]⟩;have sI:ly.cells.size=bd.size:=by rw [oT,aJ]
             have sH:=zg oS c.toNat;obtain ⟨k,g1,g2,g3⟩:=Fw (P:=P) sH aV e;have p1:IntKind.i64.wrap l=l:=by simp only [IntKind.wrap,IntKind.bits,IntKind.signed];simp;omega
             have J5:IntKind.i64.wrap c=c:=by simp only [IntKind.wrap,IntKind.bits,IntKind.signed];simp;omega
             have hmul:(bd.bytes:Int) * c<=4096 * 1000000:=by
              have ah:(bd.bytes:Int)<=4096:=by omega
              have:=Int.mul_le_mul_of_nonneg_right (c:=c) ah (by omega);omega
             refine ⟨k,g1,g2,fun w=>?_⟩;obtain ⟨i,ax,q7⟩:=Gi (P:=P) cl w;refine ⟨.slice (some ⟨w.heap.size,0,none⟩) l.toNat c.toNat,_,?_,fun ar hle dF=>⟨?_,(g3 w).2 ar hle dF⟩⟩
             . have kz:=(g3 w).1;simp only [aqO] at kz;have bK:¬c<0:=by omega
               have bR:¬((bd.bytes:Int) * c>281474976710656):=by omega
               have c3:¬l<0:=by omega
               have hU:¬l>c:=by omega
               have same:(if c.toNat * bd.size=0 then (Array.range (c.toNat * bd.size)).map (fun x=>(#[]:Array Value)[x % (#[]:Array Value).size]!) else (Array.range (c.toNat * bd.size)).map (fun x=>ly.cells[x % ly.cells.size]!))=
                (Array.range (c.toNat * ly.cells.size)).map (ly.cells[· % ly.cells.size]!):=by
                rw [sI];by_cases az:c.toNat * bd.size=0
                . rw [az];simp
                . rw [apw az]
               simp only [Instr.makeSlice,Sem.run_bind,hu,Result.andThen_ok,asInt,asIntOf,Sem.run_pure,ax,p1,J5,q7];rw [apw (by simp only [aqA,apF,not_or];exact ⟨⟨⟨bK,bR⟩,c3⟩,hU⟩)];simp only [Result.andThen_ok,Sem.run_bind,run_askRoom,jS cl];by_cases az:c.toNat * bd.size=0
               . rw [apz az] at same;rw [apz az];simp only [Sem.run_pure,Result.andThen_ok,Sem.run_bind,same,kz,aqO]
               . rw [apw az] at same;rw [apw az];simp only [Sem.run_pure,Result.andThen_ok,Sem.run_bind,wq,same,kz,aqO]
             . simp only [Rel];exact ⟨_,dF,by omega,by simp⟩
   | _=>rw [bV] at he;cases he
theorem aag {E:Env} {h ab:ae} {call:dO} {o:Oper} {aq:Nat} {r:bC} {a:Act} {v:V} (bt:gh o=true) (he:(e' P o).run call r h=.val v ab) (k:RegRel0 E aq r a):
 ∃m:Sem Value,execOp a.eval o=(do pure (.value (<-m)))/\Hd P E m v h ab:=by
 obtain ⟨dst,op,type,pos,after,guard⟩:=o;cases op<;>simp only [gh] at bt<;>try (cases bt;done)
 all_goals simp only [e'] at he
 case alloc t=>
  refine ⟨Instr.alloc t true (.tuple #[]),rfl,?_⟩;cases aE:ba P t with
  | none=>rw [aE] at he;simp [dn.none] at he
  | some aO=>
    rw [aE] at he;simp only at he;cases bk:aO.zero with
    | none=>rw [bk] at he;simp [dn.none] at he
    | some z=>
      rw [bk] at he;simp only at he;cases aV:fR h z.cells with
      | none=>rw [aV] at he;cases he
      | some aa=>
        rw [aV] at he;simp only [gF,a7.val.injEq] at he;obtain ⟨rfl,rfl⟩:=he;obtain ⟨x,aj,oS,_⟩:=tr (P:=P) (E:=E) aE bk ⟨#[],fun _ _=>0,0,default,#[]⟩;obtain ⟨cT,g1,g2,g3⟩:=Fw (P:=P) oS aV t;refine ⟨cT,g1,g2,fun w=>⟨.pointer (some ⟨w.heap.size,0,none⟩),.cells x.cells t,?_,fun ar hle dF=>⟨?_,?_⟩⟩⟩
        . have:=(g3 w).1;simp only [aqO] at this;simp only [Instr.alloc,Sem.run_bind,aj,Result.andThen_ok,newVar,this,Sem.run_pure]
        . simp only [Rel];exact ⟨_,dF,by simp⟩
        . simpa using (g3 w).2 ar hle dF
 case box t x=>
  refine ⟨Instr.box t (a.eval x),rfl,?_⟩;obtain ⟨aG,he⟩:=j0 he;cases aV:fR h ((bS x).run r).cells with
  | none=>rw [aV] at he;cases he
  | some aa=>
    rw [aV] at he;simp only [gF,a7.val.injEq] at he;obtain ⟨rfl,rfl⟩:=he;have aA:=(dx k x).cells (fun e=>by rw [e] at aG;cases aG);obtain ⟨cT,g1,g2,g3⟩:=Fw (P:=P) aA aV t;refine ⟨cT,g1,g2,fun w=>⟨.pointer (some ⟨w.heap.size,0,none⟩),.cells (a.eval x).cells t,?_,fun ar hle dF=>⟨?_,?_⟩⟩⟩
    . have:=(g3 w).1;simp only [aqO] at this;simp only [Instr.box,Sem.run_bind,newVar,this,Result.andThen_ok,Sem.run_pure]
    . simp only [Rel];exact ⟨_,dF,by simp⟩
    . simpa using (g3 w).2 ar hle dF
 case buildSlice t n bn=>
  refine ⟨Instr.buildSlice t n (bn.map fun (i,x)=>(i,a.eval x)),rfl,?_⟩;rw [Lb];exact Yu (FQ k bn.toList) he
 case makeSlice t l c=>exact ⟨Instr.makeSlice t (a.eval l) (a.eval c),rfl,aiN (dx k l) (dx k c) he⟩
 case makeMap t x=>
  cases x with
  | some _=>cases bt
  | none=>
    refine ⟨Instr.makeMap t none,rfl,?_⟩;simp only [ry,yR] at he;cases aE:ba P t with
    | none=>rw [aE] at he;cases he
    | some aO=>
      rw [aE] at he;simp only at he;cases ah:Nat.beq (eT aO.bj) 3 with
      | false=>rw [ah] at he;cases he
      | true=>
        rw [ah] at he;simp only [apu,rn,sX] at he;simp only [a7.val.injEq] at he;obtain ⟨rfl,rfl⟩:=he;refine ⟨_,rfl,trivial,fun w=>⟨.map (some w.heap.size),.map #[] 0,?_,fun ar hle dF=>⟨?_,fun B cD=>?_⟩⟩⟩
        . simp only [Instr.makeMap,Sem.run_bind,run_newObj,Result.andThen_ok,Sem.run_pure]
        . simp only [Rel];exact ⟨_,dF,rfl⟩
        . exact ⟨_,#[],dF,cD,by simp,rfl⟩
def Fr.hold (F:Fr) (b:aL) (k:b1):Fr:=⟨F.w,fun bL=>if bL=b then some k else F.hd bL⟩
def Fr.free (F:Fr) (b:aL):Fr:=⟨F.w,fun bL=>if bL=b then none else F.hd bL⟩
theorem a8.hold {F:Fr} {E:Env} {h:ae} {w:World} (s:a8 F E h w) (k:b1):a8 (F.hold (aw h.next) k) E (h.new k) w:=by
 have dp:=s.fresh h.next (apv _)
 refine ⟨fun b ah=>?_,fun b br aB=>?_,fun b bL p p' aa ad aK aS jj=>?_,fun i ax=>s.fresh i (Nat.le_of_succ_le ax),s.frame,s.laid,fun b p n cs st aa aK=>s.base b p n cs st (by
  have di:aw h.next≠b:=fun e=>by rw [<-e,dp] at aK;cases aK
  rwa [ae.hV,apw di] at aa) aK⟩
 . simp only [Fr.hold] at ah;by_cases az:b=aw h.next
   . rw [apz az] at ah;cases ah
   . rw [apw az] at ah;rw [ae.hV,apw (fun e=>az e.symm)];exact s.aW b ah
 . simp only [Fr.hold] at aB;by_cases az:b=aw h.next
   . rw [apz az] at aB;cases aB;exact ⟨by rw [ae.hV,apz az.symm],by rw [az];exact dp,h.next,Nat.lt_succ_self _,az⟩
   . rw [apw az] at aB;obtain ⟨ak,al,i,aI,bB⟩:=s.n5 b br aB;exact ⟨by rw [ae.hV,apw (fun e=>az e.symm)];exact ak,al,i,Nat.lt_succ_of_lt aI,bB⟩
 . have di:aw h.next≠b:=fun e=>by rw [<-e,dp] at aK;cases aK
   have iO:aw h.next≠bL:=fun e=>by rw [<-e,dp] at aS;cases aS
   rw [ae.hV,apw di] at aa;rw [ae.hV,apw iO] at ad;exact s.inj b bL p p' aa ad aK aS jj
theorem a8.link {F:Fr} {E:Env} {h:ae} {w:World} (s:a8 F E h w) {b:aL} {k:b1} (af:F.hd b=some k) {o:Obj}
 (me:fv F.w.heap.size (E.put b ⟨w.heap.size,0,0⟩) {w with heap:=w.heap.push o} b k):
 E.le (E.put b ⟨w.heap.size,0,0⟩)/\a8 (F.free b) (E.put b ⟨w.heap.size,0,0⟩) h {w with heap:=w.heap.push o}:=by
 obtain ⟨aB,dp,i0,vW,vK⟩:=s.n5 b k af;have hle:E.le (E.put b ⟨w.heap.size,0,0⟩):=Env.mm dp;have dF:E.put b ⟨w.heap.size,0,0⟩ b=some ⟨w.heap.size,0,0⟩:=by unfold Env.put;rw [apz rfl]
 have hold:∀bL,bL≠b->E.put b ⟨w.heap.size,0,0⟩ bL=E bL:=by intro bL ah;unfold Env.put;rw [apw ah]
 have oL:∀bL q,E bL=some q->(h.get bL)≠.dead->q.aW<w.heap.size:=by
  intro bL q az aH;have ah:=s.at az;cases aG:h.get bL with
  | dead=>exact absurd aG aH
  | view n cs=>rw [aG] at ah;obtain ⟨_,fj,c,el,bZ,e,_,a',_⟩:=ah;rw [e] at az;cases az;exact (apt.1 a').1
  | cells n cs cH st=>rw [aG] at ah;obtain ⟨_,fj,c,el,bZ,e,_,a',_⟩:=ah;rw [e] at az;cases az;exact (apt.1 a').1
  | iter st pos=>rw [aG] at ah;obtain ⟨fj,e,_,_,a'⟩:=ah;rw [e] at az;cases az;exact (apt.1 a').1
  | mp es clock=>rw [aG] at ah;obtain ⟨fj,a,e,_,a',_⟩:=ah;rw [e] at az;cases az;exact (apt.1 a').1
  | fi l=>rw [aG] at ah;obtain ⟨fj,a,e,_,a',_⟩:=ah;rw [e] at az;cases az;exact (apt.1 a').1
  | hj=>rw [aG] at ah;obtain ⟨fj,e,_,a'⟩:=ah;rw [e] at az;cases az;exact (apt.1 a').1
  | ht es=>rw [aG] at ah;obtain ⟨fj,a,c,l,e,_,a',_⟩:=ah;rw [e] at az;cases az;exact (apt.1 a').1
  | gD src since seen last=>rw [aG] at ah;obtain ⟨fj,m,a,e,_,_,a',_⟩:=ah;rw [e] at az;cases az;exact (apt.1 a').1
 refine ⟨hle,fun bL gW=>?_,fun bL br gz=>?_,fun b8 cg cc cx aa ad aK aS jj=>?_,fun i ax=>?_,⟨s.frame.os,s.frame.tape,s.frame.output,?_,fun j bp=>?_⟩,s.laid,fun b8 cc n cs st aa aK=>by
  by_cases bK:b8=b
  . subst bK;rw [dF] at aK;cases aK;rfl
  . rw [hold b8 bK] at aK;exact s.base _ _ _ _ _ aa aK⟩
 . by_cases az:bL=b
   . subst az;rw [aB];exact me
   . simp only [Fr.free,apw az] at gW;have aY:=(s.aW bL gW).mono hle;by_cases aH:h.get bL=.dead
     . rw [aH];trivial
     . refine fv.eR aY fun q sF=>?_;rw [hold bL az] at sF;have:=oL bL q sF aH;simp only [ars];rw [apw (by omega)]
 . simp only [Fr.free] at gz;by_cases az:bL=b
   . rw [apz az] at gz;cases gz
   . rw [apw az] at gz;obtain ⟨ak,al,aI⟩:=s.n5 bL br gz;exact ⟨ak,by rw [hold bL az];exact al,aI⟩
 . by_cases bK:b8=b<;>by_cases bR:cg=b
   . exact bK.trans bR.symm
   . subst bK;rw [dF] at aK;cases aK;rw [hold cg bR] at aS;have:=oL cg cx aS (fun e=>by rw [e] at ad;cases ad);simp only at jj;omega
   . subst bR;rw [dF] at aS;cases aS;rw [hold b8 bK] at aK;have:=oL b8 cc aK (fun e=>by rw [e] at aa;cases aa);simp only at jj;omega
   . rw [hold b8 bK] at aK;rw [hold cg bR] at aS;exact s.inj b8 cg cc cx aa ad aK aS jj
 . rw [hold _ (fun e=>?_)]
   . exact s.fresh i ax
   . rw [vK] at e;have:=hN e;omega
 . have:=s.frame.size;simp only [Array.size_push,Fr.free];omega
 . have aa:=s.frame.size;simp only [Fr.free,ars];rw [apw (by simp only [Fr.free] at bp;omega)];exact s.frame.block j bp
end
section
variable {P:Program}
def eb (es:List eK) (cZ:bC) (i:Nat):bC:=
 match es[i]? with
 | some e=>e.r
 | none=>cZ
theorem yk (e:eK) (es:List eK) (av:ae) (i:Nat):b' (e::es) av (i+1)=b' es av i:=by simp [b']
theorem zf (e:eK) (es:List eK) (cZ:bC) (i:Nat):eb (e::es) cZ (i+1)=eb es cZ i:=by simp [eb]
theorem uZ {aq:Nat} {all:Array Oper} {call:dO}:∀{l:List Oper} {r cZ:bC} {h av:ae} {es:List eK},(fm P aq all l).run call r h=.ok es cZ av->
 es.length=l.length/\b' es av 0=h/\eb es cZ 0=r/\∀j o,l[j]? =some o->∃e,es[j]? =some e/\(cE P aq all o).run call e.r e.h=.val e.v (b' es av (j+1))/\eb es cZ (j+1)=(ft o.dst).run e.r e.v
 | [],r,cZ,h,av,es,he=>by simp only [fm,qA.ok.injEq] at he;obtain ⟨rfl,rfl,rfl⟩:=he;exact ⟨rfl,rfl,rfl,fun j o aU=>by simp at aU⟩
 | o::os,r,cZ,h,av,es,he=>by
   simp only [fm,Ct] at he;cases aa:(cE P aq all o).run call r h with
   | fail=>rw [aa] at he;cases he
   | cK _ _=>rw [aa] at he;simp only at he;cases hm:lM o.op<;>rw [hm] at he<;>cases he
   | val v a'=>
     rw [aa] at he;simp only at he;cases ad:(fm P aq all os).run call ((ft o.dst).run r v) a' with
     | fail=>rw [ad] at he;cases he
     | cK _ _ _ _ _=>rw [ad] at he;cases he
     | ok hl bM aJ=>
       rw [ad] at he;simp only [qA.ok.injEq] at he;obtain ⟨rfl,rfl,rfl⟩:=he;obtain ⟨ak,al,aI,bB⟩:=uZ ad;refine ⟨by simp [ak],by simp [b'],by simp [eb],fun j b2 aU=>?_⟩;cases j with
       | zero=>
         simp only [apK,aps] at aU;subst aU;exact ⟨⟨r,h,v⟩,rfl,by rw [yk,al];exact aa,by rw [zf,aI]⟩
       | succ j=>
         obtain ⟨e,cc,cx,eF⟩:=bB j b2 (by simpa using aU);exact ⟨e,by simpa using cc,by rw [yk];exact cx,by rw [zf];exact eF⟩
theorem Vg {aq:Nat} {all:Array Oper} {call:dO}:∀{l:List Oper} {r cZ:bC} {h av ab:ae} {es:List eK} {v:V},(fm P aq all l).run call r h=.cK es cZ av v ab->
 b' es av 0=h/\eb es cZ 0=r/\(∀j o,j<es.length->l[j]? =some o->∃e,es[j]? =some e/\(cE P aq all o).run call e.r e.h=.val e.v (b' es av (j+1))/\eb es cZ (j+1)=(ft o.dst).run e.r e.v)/\
  ∃o,l[es.length]? =some o/\lM o.op=true/\(cE P aq all o).run call cZ av=.cK v ab
 | [],r,cZ,h,av,ab,es,v,he=>by simp [fm] at he
 | o::os,r,cZ,h,av,ab,es,v,he=>by
   simp only [fm,Ct] at he;cases aa:(cE P aq all o).run call r h with
   | fail=>rw [aa] at he;cases he
   | cK x aj=>
     rw [aa] at he;simp only at he;cases hm:lM o.op with
     | false=>rw [hm] at he;cases he
     | true=>
       rw [hm] at he;simp only [apu,qA.cK.injEq] at he;obtain ⟨rfl,rfl,rfl,rfl,rfl⟩:=he;exact ⟨rfl,rfl,fun j b2 bp=>by simp at bp,o,rfl,hm,aa⟩
   | val x a'=>
     rw [aa] at he;simp only at he;cases ad:(fm P aq all os).run call ((ft o.dst).run r x) a' with
     | fail=>rw [ad] at he;cases he
     | ok _ _ _=>rw [ad] at he;cases he
     | cK hl bM aJ v1 bu=>
       rw [ad] at he;simp only [qA.cK.injEq] at he;obtain ⟨rfl,rfl,rfl,rfl,rfl⟩:=he;obtain ⟨al,aI,bB,cX,cG,ef,hO⟩:=Vg ad;refine ⟨by simp [b'],by simp [eb],fun j b2 bp aU=>?_,cX,by simpa using cG,ef,hO⟩;cases j with
       | zero=>
         simp only [apK,aps] at aU;subst aU;exact ⟨⟨r,h,x⟩,rfl,by rw [yk,al];exact aa,by rw [zf,aI]⟩
       | succ j=>
         obtain ⟨e,cc,cx,eF⟩:=bB j b2 (by simpa using bp) (by simpa using aU);exact ⟨e,by simpa using cc,by rw [yk];exact cx,by rw [zf];exact eF⟩
theorem QQ {aq:Nat} {d:Option Nat} (aH:eI aq d=true) {r:bC} {v:V} {t:Nat} (aE:t<=top):T.get .bad (aw t) ((ft d).run r v)=if d=some t then v else T.get .bad (aw t) r:=by
 cases d with
 | none=>simp [ft]
 | some d=>
   simp only [eI,apq,apR,apE] at aH;simp only [ft,T.hW,aps];by_cases h:d=t
   . subst h;simp
   . rw [apw (fun e=>h (hN e)),apw h]
theorem ko {aq:Nat} {all:Array Oper} {o:Oper} {call:dO} {r:bC} {h ab:ae} {v:V} (he:(cE P aq all o).run call r h=.val v ab):eI aq o.dst=true/\iD (bY all o)=true:=by
 unfold cE at he;cases ao:(eI aq o.dst&&iD (bY all o)) with
 | false=>rw [ao] at he;simp [dn.none] at he
 | true=>simpa using ao
theorem GC {r:bC} {rs:List Nat} (aZ:iD rs=true) {t:Nat} (aE:t<=top):T.get .bad (aw t) (dk r rs)=if t ∈ rs then T.get .bad (aw t) r else .bad:=by
 induction rs with
 | nil=>simp [dk]
 | cons u rs bb=>
   simp only [iD,arh,apq,apE] at aZ;simp only [dk,T.hW,apJ];by_cases h:u=t
   . subst h;simp
   . rw [apw (fun e=>h (hN e)),bb aZ.2];have ab:¬t=u:=fun e=>h e.symm;simp [ab]
theorem PK {aq:Nat} {all:Array Oper} {o:Oper} {call:dO} {r:bC} {h ab:ae} {v:V} (he:(cE P aq all o).run call r h=.cK v ab):eI aq o.dst=true/\iD (bY all o)=true:=by
 unfold cE at he;cases ao:(eI aq o.dst&&iD (bY all o)) with
 | false=>rw [ao] at he;simp [dn.none] at he
 | true=>simpa using ao
def Hh (ay:Fr) (E:Env) (o:Oper) (a:Act) (K:Act->World->Prop) (Q:Exit->Act->World->Prop):a7->Prop
 | .val v ab=>∀ar x w',E.le ar->Rel ar v x->a8 ay ar ab w'->K (a.put o.dst x) w'
 | .cK v ab=>lM o.op=true/\∀ar x w',E.le ar->Rel ar v x->a8 ay ar ab w'->Q (.panic (qd x)) a w'
 | .fail=>False
theorem PL {rd:Option Nat} {ay:Fr} {E:Env} {h:ae} {w:World} {call:dO} (bE:ec P) (cb:gq P call) (dC:gJ P call) {all:Array Oper} {i:Nat} {o:Oper} (ax:all[i]? =some o) {aq:Nat} {r:bC} {a:Act}
 (gX:eI aq o.dst=true/\iD (bY all o)=true) (pY:a.tmps.size=aq) (kF:∀t ∈ bY all o,Rel E (T.get .bad (aw t) r) (a.tmps.getD t undef)) (s:a8 ay E h w)
 {K:Act->World->Prop} {Q:Exit->Act->World->Prop} (af:Hh ay E o a K Q ((cE P aq all o).run call r h)):wpOpIn (b4 rd) 0 P all Q i K a w:=by
 obtain ⟨aH,aZ⟩:=gX
 have k:RegRel0 E aq (dk r (bY all o)) a:=⟨pY,fun t aE=>by
  rw [GC aZ aE];by_cases hm:t ∈ bY all o
  . rw [apz hm];exact kF t hm
  . rw [apw hm];simp [Rel]⟩
 unfold cE at af;rw [show (eI aq o.dst&&iD (bY all o))=true from by rw [aH,aZ];rfl] at af;simp only [apu] at af;have wanted:Hh ay E o a K Q ((e' P o).run call (dk r (bY all o)) h)->Region.wanted o (yielded all a.tmps)=true->wpOpIn (b4 rd) 0 P all Q i K a w:=by
  intro aa hw;simp only [wpOpIn,ax,hw,ap3];cases aC:(e' P o).run call (dk r (bY all o)) h with
  | fail=>rw [aC] at aa;exact aa.elim
  | val v ab=>rw [aC] at aa;exact PB bE cb dC aC k s aa
  | cK v ab=>rw [aC] at aa;exact Py bE cb aa.1 aC k s aa.2
 have VG:Hh ay E o a K Q (.val (.tuple []) h)->Region.wanted o (yielded all a.tmps)=false->wpOpIn (b4 rd) 0 P all Q i K a w:=by intro aa hw;simp only [wpOpIn,ax,hw,apH,ap9];exact ⟨fun _ _=>trivial,aa E undef w (Env.le.refl E) (by simp only [Rel];exact ⟨#[],rfl,rfl⟩) s⟩
 cases aG:o.guard with
 | none=>
   rw [aG] at af;exact wanted af (by simp [Region.wanted,aG])
 | some nV=>
   obtain ⟨j,want⟩:=nV;rw [aG] at af;simp only at af;cases bp:all[j]? with
   | none=>rw [bp] at af;exact af.elim
   | some g=>
     rw [bp] at af;simp only at af;cases iA:g.dst with
     | none=>rw [iA] at af;exact af.elim
     | some d=>
       rw [iA] at af;simp only at af;cases ao:(Nat.blt d aq&&Nat.ble d top) with
       | false=>rw [ao] at af;exact af.elim
       | true=>
         rw [ao] at af;simp only [apu,iI,oE] at af;simp only [apq,apR,apE] at ao;obtain ⟨g1,g2⟩:=IC k bp iA ao.1 ao.2;cases bs:T.get .bad (aw d) (dk r (bY all o))<;>rw [bs] at af<;>simp only at af<;>try (exact af.elim)
         . rename_i b;have a6:=g1 b bs;cases ah:(bif want then b else !b) with
           | true=>
             rw [ah] at af;simp only [apu] at af;refine wanted af ?_;simp only [Region.wanted,aG,a6];cases want<;>cases b<;>simp_all
           | false=>
             rw [ah] at af;simp only [apA] at af;refine VG af ?_;simp only [Region.wanted,aG,a6];cases want<;>cases b<;>simp_all
         . rename_i ag;have a6:=g2 ag bs;refine VG af ?_;simp only [Region.wanted,aG,a6];rfl
theorem qO {rd:Option Nat} {ay:Fr} {E:Env} {h ab:ae} {w:World} {call:dO} (bE:ec P) (cb:gq P call) (dC:gJ P call) {all:Array Oper} {i:Nat} {o:Oper} (ax:all[i]? =some o) {aq:Nat} {r:bC} {a:Act} {v:V}
 (he:(cE P aq all o).run call r h=.val v ab) (pY:a.tmps.size=aq) (kF:∀t ∈ bY all o,Rel E (T.get .bad (aw t) r) (a.tmps.getD t undef)) (s:a8 ay E h w)
 {K:Act->World->Prop} {Q:Exit->Act->World->Prop} (dE:∀ar x w',E.le ar->Rel ar v x->a8 ay ar ab w'->K (a.put o.dst x) w'):wpOpIn (b4 rd) 0 P all Q i K a w:=
 PL bE cb dC ax (ko he) pY kF s (by rw [he];exact dE)
theorem aaI {rd:Option Nat} {ay:Fr} {E:Env} {h ab:ae} {w:World} {call:dO} (bE:ec P) (cb:gq P call) (dC:gJ P call) {all:Array Oper} {i:Nat} {o:Oper} (ax:all[i]? =some o) {aq:Nat} {r:bC} {a:Act} {v:V}
 (he:(cE P aq all o).run call r h=.cK v ab) (hm:lM o.op=true) (pY:a.tmps.size=aq) (kF:∀t ∈ bY all o,Rel E (T.get .bad (aw t) r) (a.tmps.getD t undef)) (s:a8 ay E h w)
 {K:Act->World->Prop} {Q:Exit->Act->World->Prop} (cy:∀ar x w',E.le ar->Rel ar v x->a8 ay ar ab w'->Q (.panic (qd x)) a w'):wpOpIn (b4 rd) 0 P all Q i K a w:=
 PL bE cb dC ax (PK he) pY kF s (by rw [he];exact ⟨hm,cy⟩)
theorem vv {aq:Nat} {all:Array Oper} {o:Oper} {call:dO} {r:bC} {h ab:ae} {v:V} (az:eN P o.op=false) (he:(cE P aq all o).run call r h=.val v ab):
 ab=h/\(looks o.op=false->∀H,(cE P aq all o).run call r H=.val v H):=by
 obtain ⟨aH,aZ⟩:=ko he;have dw:(eI aq o.dst&&iD (bY all o))=true:=by rw [aH,aZ];rfl
 have key:cE P aq all o=(match o.guard with
  | none=>⟨iI none (e' P o) (bY all o)⟩
  | some (j,want)=>match all[j]? with
    | some g=>match g.dst with
      | some d=>bif Nat.blt d aq&&Nat.ble d top then ⟨iI (some (oE (aw d),want)) (e' P o) (bY all o)⟩ else dn.none
      | none=>dn.none
    | none=>dn.none):=by
  unfold cE;rw [dw];rfl
 rw [key] at he ⊢;cases aG:o.guard with
 | none=>
   rw [aG] at he;exact ⟨PA az he,fun aA H=>Pz az aA he H⟩
 | some nV=>
   obtain ⟨j,want⟩:=nV;rw [aG] at he;simp only at he ⊢;cases bp:all[j]? with
   | none=>rw [bp] at he;simp [dn.none] at he
   | some g=>
     rw [bp] at he;simp only at he ⊢;cases iA:g.dst with
     | none=>rw [iA] at he;simp [dn.none] at he
     | some d=>
       rw [iA] at he;simp only at he ⊢;cases ao:(Nat.blt d aq&&Nat.ble d top) with
       | false=>rw [ao] at he;simp [dn.none] at he
       | true=>
         rw [ao] at he;simp only [apu,iI] at he ⊢;cases bs:(oE (aw d)).run (dk r (bY all o))<;>rw [bs] at he<;>simp only at he ⊢<;>try (cases he;done)
         . rename_i b;cases ah:(bif want then b else !b)<;>rw [ah] at he<;>simp only [apu,apA] at he ⊢
           . simp only [a7.val.injEq] at he ⊢;exact ⟨he.2.symm,fun _ H=>⟨he.1,trivial⟩⟩
           . exact ⟨PA az he,fun aA H=>Pz az aA he H⟩
         . simp only [a7.val.injEq] at he ⊢;exact ⟨he.2.symm,fun _ H=>⟨he.1,trivial⟩⟩
theorem Nl {op:dn} {call:dO} {es:List eK} {av:ae} {r:bC} {v:V}:∀{ca:List Nat},Dn op call es av r v ca=true->∀s ∈ ca,∃ab,op.run call r (b' es av s)=.val v ab
 | [],_,s,h=>by simp at h
 | fT::ca,he,s,hm=>by
   simp only [Dn,apq] at he;simp only [apJ] at hm;rcases hm with rfl | hm
   . have aa:=he.1;cases aC:op.run call r (b' es av s) with
     | fail=>rw [aC] at aa;cases aa
     | cK _ _=>rw [aC] at aa;cases aa
     | val cd ab=>
       rw [aC] at aa;rw [Im aa];exact ⟨ab,rfl⟩
   . exact Nl he.2 s hm
theorem HB {aq:Nat} {all:Array Oper} {dT aD en:List Nat} {call:dO} {es:List eK} {av:ae}:∀{l:List Oper} {i:Nat},(r9 P aq all dT aD en i l).run call es av=true->
 ∀j o,l[j]? =some o->looks o.op=true->eN P o.op=false->∀e,es[posOf aD (i+j)]? =some e->∀s ∈ en,sV P dT all.toList aD (i+j) ((dT[i+j]?).getD 0) s=true->∃ab,(cE P aq all o).run call e.r (b' es av s)=.val e.v ab
 | [],_,_,j,o,aU,_,_=>by simp at aU
 | b2::os,i,he,j,o,aU,aA,az=>by
   simp only [r9] at he;cases j with
   | zero=>
     simp only [apK,aps] at aU;subst aU;rw [aA,az] at he;simp only [Bool.not_false,aqt,apu,apq,Nn] at he;have aa:=he.1;intro e q2 s aZ hm
     . rw [aqC] at q2;rw [q2] at aa;exact Nl aa s (arn.2 ⟨aZ,by simpa using hm⟩)
   | succ j=>
     have rest:(r9 P aq all dT aD en (i+1) os).run call es av=true:=by
      cases ao:(looks b2.op&&!eN P b2.op) with
      | false=>rw [ao] at he;exact he
      | true=>rw [ao] at he;simp only [apu,apq] at he;exact he.2
     have:=HB rest j o (by simpa using aU) aA az;rw [show i + (j+1)=i+1+j from by omega];exact this
theorem yM {aD:List Nat}:∀{l:List Oper} {i j:Nat} {o:Oper},l[j]? =some o->dY P o=true->posOf aD (i+j) ∈ hs P aD i l
 | [],_,j,o,h,_=>by simp at h
 | b2::os,i,j,o,h,he=>by
   simp only [hs];cases j with
   | zero=>
     simp only [apK,aps] at h;subst h;rw [he];simp
   | succ j=>
     have:=yM (aD:=aD) (i:=i+1) (by simpa using h) he;rw [show i + (j+1)=i+1+j from by omega];cases dY P b2 with
     | true=>simp [this]
     | false=>exact this
theorem Fi {aD:List Nat}:∀{l:List Oper} {i:Nat},i+l.length ∈ hs P aD i l
 | [],_=>by simp [hs]
 | o::os,i=>by
   have:=Fi (aD:=aD) (l:=os) (i:=i+1);simp only [hs,apB];rw [show i + (os.length+1)=i+1+os.length from by omega];cases dY P o with
   | true=>simp [this]
   | false=>exact this
theorem uB {aD:List Nat}:∀{l:List Oper} {i s:Nat},s ∈ hs P aD i l->s=i+l.length\/∃j o,l[j]? =some o/\dY P o=true/\s=posOf aD (i+j)
 | [],i,s,h=>by simp only [hs,aqp] at h;exact .inl (by simpa using h)
 | o::os,i,s,h=>by
   simp only [hs] at h;have rest:s ∈ hs P aD (i+1) os->s=i + (o::os).length\/∃j b2,(o::os)[j]? =some b2/\dY P b2=true/\s=posOf aD (i+j):=by
    intro h;rcases uB h with h | ⟨j,b2,aa,ad,aJ⟩
    . exact .inl (by simp only [apB];omega)
    . exact .inr ⟨j+1,b2,by simpa using aa,ad,by rw [aJ];congr 1;omega⟩
   cases ao:dY P o with
   | true=>
     rw [ao] at h;simp only [apu,apJ] at h;rcases h with h | h
     . exact .inr ⟨0,o,rfl,ao,h⟩
     . exact rest h
   | false=>rw [ao] at h;exact rest h
theorem Z' {c:Bool} {f:V->V->ae->a7} {x y v:V} {h ab:ae} (he:(bif c then (⟨f⟩:zG) else ⟨fun _ _ _=>.fail⟩).run x y h=.val v ab):c=true/\f x y h=.val v ab:=by
 cases c with
 | true=>exact ⟨rfl,he⟩
 | false=>cases he
theorem aah {o:Oper} {call:dO} {r:bC} {h ab:ae} {v:V} (bt:gh o=true) (he:(e' P o).run call r h=.val v ab):∃k,ab=h.new k/\True:=by
 have cells:∀{ag:List V} {aa:ae},fR h ag=some aa->∃k,aa=h.new k/\True:=by intro ag aa he;unfold fR at he;obtain ⟨ao,he⟩:=ev he;cases he;exact ⟨_,rfl,trivial⟩
 obtain ⟨dst,op,type,pos,after,guard⟩:=o;cases op<;>simp only [gh] at bt<;>try (cases bt;done)
 all_goals simp only [e'] at he
 case alloc t=>
  cases aE:ba P t with
  | none=>rw [aE] at he;simp [dn.none] at he
  | some aO=>
    rw [aE] at he;simp only at he;cases bk:aO.zero with
    | none=>rw [bk] at he;simp [dn.none] at he
    | some z=>
      rw [bk] at he;simp only at he;cases aV:fR h z.cells with
      | none=>rw [aV] at he;cases he
      | some aa=>
        rw [aV] at he;simp only [gF,a7.val.injEq] at he;obtain ⟨_,rfl⟩:=he;exact cells aV
 case box t x=>
  obtain ⟨aG,he⟩:=j0 he;cases aV:fR h ((bS x).run r).cells with
  | none=>rw [aV] at he;cases he
  | some aa=>
    rw [aV] at he;simp only [gF,a7.val.injEq] at he;obtain ⟨_,rfl⟩:=he;exact cells aV
 case buildSlice t n bn=>
  unfold vr at he;cases aE:ba P t with
  | none=>rw [aE] at he;cases he
  | some aO=>
    rw [aE] at he;simp only at he;cases bV:aO.bj<;>rw [bV] at he<;>simp only at he<;>try (cases he;done)
    rename_i e;cases cl:ba P e with
    | none=>rw [cl] at he;cases he
    | some bd=>
      rw [cl] at he;simp only at he;cases bk:bd.zero with
      | none=>rw [bk] at he;cases he
      | some z=>
        rw [bk] at he;simp only at he;cases ao:(Nat.ble (n * bd.size) 1000000&&Nat.beq z.cells.length bd.size) with
        | false=>rw [ao] at he;cases he
        | true=>
          rw [ao] at he;simp only [apu] at he;cases av:mM (fun i=>some (i * bd.size,bd.size)) (im z.cells n) ((uM bn.toList).run r) with
          | none=>rw [av] at he;cases he
          | some cs=>
            rw [av] at he;simp only at he;cases aV:fR h cs with
            | none=>rw [aV] at he;cases he
            | some aa=>
              rw [aV] at he;simp only [a7.val.injEq] at he;obtain ⟨_,rfl⟩:=he;exact cells aV
 case makeSlice t l c=>
  unfold wK at he
  split at he
  rotate_left
  . cases he
  split at he
  rotate_left
  . cases he
  split at he
  rotate_left
  . cases he
  split at he
  rotate_left
  . cases he
  obtain ⟨_,he⟩:=Z' he;simp only [uC] at he;obtain ⟨_,_,_,he⟩:=s4 he;obtain ⟨_,_,_,he⟩:=s4 he;obtain ⟨_,he⟩:=j0 he
  split at he
  . rename_i aV;simp only [a7.val.injEq] at he;obtain ⟨_,rfl⟩:=he;exact cells aV
  . cases he
 case makeMap t x=>
  cases x with
  | some _=>cases bt
  | none=>
    simp only [ry,yR] at he;cases aE:ba P t with
    | none=>rw [aE] at he;cases he
    | some aO=>
      rw [aE] at he;simp only at he;cases ah:Nat.beq (eT aO.bj) 3 with
      | false=>rw [ah] at he;cases he
      | true=>
        rw [ah] at he;simp only [apu,rn,sX] at he;simp only [a7.val.injEq] at he;exact ⟨_,he.2.symm,trivial⟩
theorem afx {o:Oper} (bt:gh o=true):eN P o.op=true:=by obtain ⟨dst,op,type,pos,after,guard⟩:=o;cases op<;>simp only [gh] at bt<;>first | (cases bt;done) | rfl
theorem PN {aq:Nat} {all:Array Oper} {o:Oper} {call:dO} {r:bC} {h ab:ae} {v:V} (he:(cE P aq all o).run call r h=.val v ab):
 ((e' P o).run call (dk r (bY all o)) h=.val v ab/\∀E a,RegRel0 E aq (dk r (bY all o)) a->Region.wanted o (yielded all a.tmps)=true)\/
 (ab=h/\∀H,(cE P aq all o).run call r H=.val v H):=by
 obtain ⟨aH,aZ⟩:=ko he;have dw:(eI aq o.dst&&iD (bY all o))=true:=by rw [aH,aZ];rfl
 have key:cE P aq all o=(match o.guard with
  | none=>⟨iI none (e' P o) (bY all o)⟩
  | some (j,want)=>match all[j]? with
    | some g=>match g.dst with
      | some d=>bif Nat.blt d aq&&Nat.ble d top then ⟨iI (some (oE (aw d),want)) (e' P o) (bY all o)⟩ else dn.none
      | none=>dn.none
    | none=>dn.none):=by
  unfold cE;rw [dw];rfl
 rw [key] at he ⊢;cases aG:o.guard with
 | none=>
   rw [aG] at he;exact .inl ⟨he,fun E a _=>by simp [Region.wanted,aG]⟩
 | some nV=>
   obtain ⟨j,want⟩:=nV;rw [aG] at he;simp only at he ⊢;cases bp:all[j]? with
   | none=>rw [bp] at he;simp [dn.none] at he
   | some g=>
     rw [bp] at he;simp only at he ⊢;cases iA:g.dst with
     | none=>rw [iA] at he;simp [dn.none] at he
     | some d=>
       rw [iA] at he;simp only at he ⊢;cases ao:(Nat.blt d aq&&Nat.ble d top) with
       | false=>rw [ao] at he;simp [dn.none] at he
       | true=>
         rw [ao] at he;simp only [apu,iI] at he ⊢;have pN:=ao;simp only [apq,apR,apE] at pN;cases bs:(oE (aw d)).run (dk r (bY all o))<;>rw [bs] at he<;>simp only at he ⊢<;>try (cases he;done)
         . rename_i b;cases ah:(bif want then b else !b)<;>rw [ah] at he<;>simp only [apu,apA] at he ⊢
           . simp only [a7.val.injEq] at he ⊢;exact .inr ⟨he.2.symm,fun H=>⟨he.1,trivial⟩⟩
           . refine .inl ⟨he,fun E a k=>?_⟩;obtain ⟨g1,_⟩:=IC k bp iA pN.1 pN.2;have a6:=g1 b bs;simp only [Region.wanted,aG,a6];cases want<;>cases b<;>simp_all
         . simp only [a7.val.injEq] at he ⊢;exact .inr ⟨he.2.symm,fun H=>⟨he.1,trivial⟩⟩
theorem PM {aq:Nat} {all:Array Oper} {o:Oper} {call:dO} {r:bC} {h ab:ae} {v:V} (bt:gh o=true) (he:(cE P aq all o).run call r h=.val v ab):
 (∃k,ab=h.new k/\True)\/(ab=h/\∀H,(cE P aq all o).run call r H=.val v H):=by
 rcases PN he with ⟨aa,_⟩ | aa
 . exact .inl (aah bt aa)
 . exact .inr aa
theorem aaG {rd:Option Nat} {F:Fr} {E:Env} {h ab H:ae} {w:World} {call:dO} {all:Array Oper} {i:Nat} {o:Oper} (ax:all[i]? =some o) (bt:gh o=true) {aq:Nat} {r:bC} {a:Act} {v:V}
 (he:(cE P aq all o).run call r h=.val v ab) (pY:a.tmps.size=aq) (kF:∀t ∈ bY all o,Rel E (T.get .bad (aw t) r) (a.tmps.getD t undef)) (s:a8 F E H w)
 (Jv:ab.next≠h.next) (af:F.hd (aw h.next)=some (ab.get (aw h.next)))
 {K:Act->World->Prop} {Q:Exit->Act->World->Prop} (dE:∀ar x w',E.le ar->Rel ar v x->a8 (F.free (aw h.next)) ar H w'->K (a.put o.dst x) w'):wpOpIn (b4 rd) 0 P all Q i K a w:=by
 obtain ⟨aH,aZ⟩:=ko he
 have k:RegRel0 E aq (dk r (bY all o)) a:=⟨pY,fun t aE=>by
  rw [GC aZ aE];by_cases hm:t ∈ bY all o
  . rw [apz hm];exact kF t hm
  . rw [apw hm];simp [Rel]⟩
 obtain ⟨ee,hw⟩:(e' P o).run call (dk r (bY all o)) h=.val v ab/\Region.wanted o (yielded all a.tmps)=true:=by
  rcases PN he with ⟨aa,ad⟩ | ⟨aa,_⟩
  . exact ⟨aa,ad E a k⟩
  . exact absurd (by rw [aa]) Jv
 obtain ⟨m,aj,cT,ak,al,aI⟩:=aag bt ee k;simp only [wpOpIn,ax,hw,ap3];obtain ⟨X,cF,cc,cx⟩:=aI w;rw [ak,ae.hV,apz rfl] at af;have dF:E.put (aw h.next) ⟨w.heap.size,0,0⟩ (aw h.next)=some ⟨w.heap.size,0,0⟩:=by unfold Env.put;rw [apz rfl]
 have hle:E.le (E.put (aw h.next) ⟨w.heap.size,0,0⟩):=Env.mm (s.n5 _ _ af).2.1;obtain ⟨bM,dc⟩:=cx _ hle dF;have cq:F.w.heap.size<=w.heap.size:=s.frame.size;obtain ⟨_,kB⟩:=s.link af (o:=cF) (dc _ cq);refine ⟨fun _ _=>trivial,?_⟩;rw [qo (by intro c h;have:=bt;unfold gh at this;rw [h] at this;cases this),aj,Sem.run_bind,cc];exact dE _ X _ hle bM kB
end
end
end Go.Proofs.YtgmhjhgoamjeeaaGreatDoor.aX
