/- The chapter's functions, walked by the abstract machine: plain lemmas, no condition. Printed by a program from longer texts: names made short. -/
import Derived.Test.YtkehcalakofigaaGreatDoorM6
import Derived.Test.YtkehcalakofigaaGreatDoorM7
set_option linter.unusedSectionVars false
set_option linter.unusedSimpArgs false
set_option linter.unusedVariables false
namespace Go.Proofs.YtkehcalakofigaaGreatDoor
open Go aS
theorem ajO {P:Program} {cm:List V} {b:aQ} {d:Option Nat} {os:List bw} {D:Option hD} {aL:List hb} {r:aT} {h:af} {Q:dd→aT→af→Prop} {K:V→af→Prop}
 (c:xr P cm b h K) (H:∀v ab,K v ab→bq P (.os (h2 D r h v) os::aL) .normal (r.set d v) ab Q):Dx P (cm++[.ptr b 0]) d D os aL r h Q:=by
 obtain ⟨v,ab,q,k⟩:=c
 exact ⟨cm,b,rfl,v,ab,q,H v ab k⟩
structure ajV (jD:Nat) (nn:aQ) (M:aQ→Prop) (I:List aM→af→Prop):Prop where
 ext:∀{d:List aM} {h ab:af},I d h→Ext h ab→I d ab
 FZ:∀{d:List aM} {h:af} (p:aM) {ad:List V},I d h→bZ (fun b=>cd b<jD) h p.enc ad→xr Tryz.prog [.agg ad] nn h fun x ab=>x=.bool true∧I (d++[p]) ab∧Mod M h ab
 b0:∀{d:List aM} {h:af},I d h→∀b,M b→Old h b
 bm:∀b,M b→jD≤cd b
theorem ajn (ad:List V) (h:af) (aU:eg ad=true) (ak:ad.length≤top):bB Tryz.prog 40 [.agg ad] h fun x ab=>∃n,x=.func 52 [.ptr (aC n) 0]∧Has ab n ad∧Ext h ab:=by
 refine Wb rfl (cR ?_)
 unfold E7
 obtain ⟨aa,al,aB,ch⟩:=fo h ad
 have eA:(ad.length≤17179869184)=True:=eq_true ak
 simp +contextual only [al,aU,eA,↓ah,ao,simprocAttr]
 exact ⟨_,rfl,ch,aB⟩
structure ajT (cq j_ m:Nat) (l:mP) (d:List aM) (h:af):Prop where
 n:Has h cq [.int .i64 (IntKind.i64.wrap d.length)]
 bm:m<h.next
 l:h.get (aC m)=.dk l
 u7:j_<h.next
 d:h.get (aC j_)=.fb
structure gQ where
 first:List Int:=[]
 rest:Int:=0
 least:Int:=0
 jr:Int:=0
 last:List Int:=[]
 bm:Int:=0
 av:Int:=0
 s:Int:=0
def gQ.enc (r:gQ):List D:=[.l 1 (r.first.map aS.encI),.i .i64 r.rest,.i .i64 r.least,.i .i64 r.jr,.l 1 (r.last.map aS.encI),.i .i64 r.bm,.i .i64 r.av,.i .i64 r.s]
def qT:List (Int × gQ):=
 [(1,{s:=3}),(2,{s:=1,rest:=1,jr:=64}),(3,{first:=[1,1]}),(4,{first:=[1,1]}),
  (10,{}),(13,{}),(11,{s:=1}),(12,{bm:=-1073741824,av:=1073741823}),(14,{av:=1}),(15,{first:=[2,2]}),(16,{s:=2,rest:=2,jr:=1}),
  (20,{bm:=-1073741824,av:=1073741823}),(21,{s:=4}),(22,{}),(23,{av:=1}),(24,{s:=1}),(25,{s:=2,rest:=3,jr:=1}),(26,{first:=[3,3]}),(28,{first:=[3,3]}),(35,{first:=[3,3]}),(37,{first:=[3,3]}),
  (38,{s:=5,first:=[3,3]}),(34,{first:=[3]}),(36,{first:=[3]}),(39,{first:=[3]}),(31,{first:=[3,3,3]}),(27,{first:=[2,3]}),(29,{first:=[2,3,3]}),
  (30,{rest:=5,least:=1,jr:=1073741824,last:=[3]}),(32,{first:=[3],rest:=4,least:=1,jr:=1073741824}),(33,{first:=[3],rest:=4,least:=1,jr:=1073741824}),
  (45,{first:=[2,3]}),(46,{s:=1,first:=[9]}),(47,{s:=2,rest:=1,jr:=1}),(51,{s:=2,rest:=1,jr:=1}),(52,{first:=[2,3]}),(53,{rest:=5,least:=1,jr:=1073741824}),
  (50,{s:=1,av:=64,rest:=6,least:=1,jr:=1073741824})]
def Dc:List (Int × List D):=qT.map fun x=>(x.1,x.2.enc)
set_option maxRecDepth 100000 in
theorem ahS:CF ctx 100000 35 (fun aw v=>CE aw 1000 Dc v)=true:=by kernel_rfl
theorem ahR (h:af):bB Tryz.prog 35 [] h fun x ab=>Ext h ab∧mQ (jG h) ab Dc x:=
 Yo (C:=ctx) follows cP I5 (by kernel_rfl) (by kernel_rfl) ⟨_,Tryz.func35,by kernel_rfl⟩ ahS h
def eu (k:Int):Int:=if 1≤k∧k≤4 then 1 else if 10≤k∧k≤16 then 2 else if 20≤k∧k≤39 then 3 else if k=45 then 4 else if k=46 then 5 else if k=47 then 6 else if 50≤k∧k≤53 then 7 else 0
theorem OZ {a b:Int} (h:a≤b):(a≤b)=True:=eq_true h
theorem OY {a b:Int} (h:b<a):(a≤b)=False:=eq_false (by omega)
theorem vn {a b:Int} (h:b≤a):(a≥b)=True:=eq_true h
theorem xX {a b:Int} (h:a<b):(a≥b)=False:=eq_false (by omega)
theorem Om {a b:Int} (h:a=b):(a=b)=True:=eq_true h
theorem Ol {a b:Int} (h:a<b∨b<a):(a=b)=False:=eq_false (by omega)
set_option maxHeartbeats 4000000 in
theorem M8 (k:Int) (h:af):bB Tryz.prog 36 [.int .i64 k] h fun x ab=>x=.int .i64 (eu k)∧ab=h:=by
 refine V0 rfl (cR ?_)
 unfold E3 eu
 have an:k<1∨(1≤k∧k≤4)∨(5≤k∧k≤9)∨(10≤k∧k≤16)∨(17≤k∧k≤19)∨(20≤k∧k≤39)∨(40≤k∧k≤44)∨k=45∨k=46∨k=47∨(48≤k∧k≤49)∨(50≤k∧k≤53)∨54≤k:=by omega
 rcases an with q | q | q | q | q | q | q | q | q | q | q | q | q<;>simp +contextual (disch:=omega) only [OZ,OY,vn,xX,Om,Ol,and_true,and_false,true_and,false_and,if_true,if_false,↓ah,ao,simprocAttr]<;>trivial
set_option maxHeartbeats 4000000 in
theorem Jl (k:Int) (h:af):bB Tryz.prog 38 [.int .i64 k] h fun x ab=>x=.int .i64 (eu k)∧ab=h:=by
 refine V6 rfl (cR ?_)
 unfold E5 eu
 have an:k<1∨(1≤k∧k≤4)∨(5≤k∧k≤9)∨(10≤k∧k≤16)∨(17≤k∧k≤19)∨(20≤k∧k≤39)∨(40≤k∧k≤44)∨k=45∨k=46∨k=47∨(48≤k∧k≤49)∨(50≤k∧k≤53)∨54≤k:=by omega
 rcases an with q | q | q | q | q | q | q | q | q | q | q | q | q<;>simp +contextual (disch:=omega) only [OZ,OY,vn,xX,Om,Ol,and_true,and_false,true_and,false_and,if_true,if_false,↓ah,ao,simprocAttr]<;>trivial
def rR (k g:Int):Bool:=if g=8 then decide (k=1) else if g=9 then decide (k=27) else decide (eu k=g)
set_option maxHeartbeats 1000000 in
theorem acV (t:aM) (g:Int) (ad:List V) (h:af) (H:bZ Any h t.enc ad):bB Tryz.prog 48 [.agg ad,.int .i64 g] h fun x ab=>x=.bool (rR t.k g)∧Ext h ab:=by
 obtain ⟨cl,rfl,L,_⟩:=aM.open H
 have ol:=L.one
 refine Wv rfl (cR ?_)
 unfold Fb rR
 obtain ⟨aa,al,aB,ch⟩:=fo h [.int .i64 t.k,.int .i64 t.n,.int .i64 t.a,.str t.s,cl]
 by_cases a:g=8
 · simp +contextual only [ol.1,ol.2.1,al,ch.g,eq_true a,if_true,↓ah,ao,simprocAttr]
   exact aB
 · by_cases b:g=9
   · simp +contextual only [ol.1,ol.2.1,al,ch.g,eq_false a,eq_true b,if_true,if_false,↓ah,ao,simprocAttr]
     exact aB
   · simp +contextual only [ol.1,ol.2.1,al,ch.g,eq_false a,eq_false b,if_false,↓ah,ao,simprocAttr]
     refine bK (M8 t.k aa) ?_
     rintro x ae ⟨rfl,rfl⟩
     simp +contextual only [↓ah,ao,simprocAttr]
     exact aB
def wO (k:Int):List (Int × gQ)→Option gQ
 | []=>none
 | (n,r)::l=>if k=n then some r else wO k l
def lb (k:Int):Option gQ:=wO k qT
theorem MI (k:Int):∀l:List (Int × gQ),lX k (l.map fun x=>(x.1,x.2.enc))=(wO k l).map gQ.enc
 | []=>rfl
 | (n,r)::l=>by
   simp only [List.map_cons,lX,wO]
   split
   · rfl
   · exact MI k l
theorem Zz (k:Int):lX k Dc=(lb k).map gQ.enc:=MI k qT
def opsL:List (List UInt8):=[[43],[45],[42],[47],[109,111,100],[61],[60],[60,61]]
section
variable (named:Int→List UInt8→Bool)
def wY (mn:Int) (s:List UInt8):Bool:=
 if mn=1 then named 3 s else if mn=2 then named 4 s else if mn=3 then named 5 s else if mn=4 then decide (s.length≤4096) else if mn=5 then opsL.contains s else decide (s=[])
def firstM (r:gQ) (k n:Int):List Int:=if k=50 then List.replicate n.toNat 8 else r.first
def fl (r:gQ) (k n:Int) (len:Nat):Int:=(len:Int) - (firstM r k n).length-r.last.length
def lG (r:gQ) (k n:Int) (len:Nat):List Int:=firstM r k n++List.replicate (fl r k n len).toNat r.rest++r.last
def vB (r:gQ) (k n a:Int) (s:List UInt8):Bool:=
 decide (r.bm≤n)&&decide (n≤r.av)&&decide (0≤a)&&decide (a≤65536)&&wY named r.s s
def hy (r:gQ) (k n:Int) (len:Nat):Bool:=decide (r.least≤fl r k n len)&&decide (fl r k n len≤r.jr)
mutual
def aM.may:aM→Bool
 | .mk k n a s l=>match lb k with
   | none=>false
   | some r=>vB named r k n a s&&hy r k n l.length&&j2 (lG r k n l.length) l
def j2:List Int→List aM→Bool
 | _,[]=>true
 | [],_::_=>true
 | g::gs,t::l=>rR t.k g&&t.may&&j2 gs l
end
def uh (k:Int) (s:List UInt8):Bool:=
 if k=1 then named 5 s else if k=2∨k=11∨k=24∨k=46∨k=50 then named 3 s else if k=16∨k=25∨k=47∨k=51 then named 4 s else
 if k=21 then decide (s.length≤4096) else if k=38 then opsL.contains s else decide (s=[])
def hC (k n:Int) (len:Nat):Bool:=
 if k=12∨k=20 then decide (-1073741824≤n)&&decide (n≤1073741823) else if k=14∨k=23 then decide (n=0)||decide (n=1) else
 if k=50 then decide (0≤n)&&decide (n≤64)&&decide (n < (len:Int)) else decide (n=0)
def Gg:List aM→Bool
 | t::_=>decide (t.k=27)
 | []=>false
def da (k n:Int) (l:List aM):List Int × Bool:=
 let len:=l.length
 if k=2 then (List.replicate len 1,decide (len≤64))
 else if k=3∨k=4 then (List.replicate 2 1,decide (len=2))
 else if k=15 then (List.replicate 2 2,decide (len=2))
 else if k=16 then (List.replicate len 2,decide (len≤1))
 else if k=25 then (List.replicate len 3,decide (len≤1))
 else if k=26∨k=28∨k=35∨k=37∨k=38 then (List.replicate 2 3,decide (len=2))
 else if k=34∨k=36∨k=39 then (List.replicate 1 3,decide (len=1))
 else if k=31 then (List.replicate 3 3,decide (len=3))
 else if k=27∨k=45∨k=52 then ([2,3],decide (len=2))
 else if k=29 then ([2,3,3],decide (len=3))
 else if k=30 then (List.replicate (len-1) 5++[3],decide (2≤len))
 else if k=32∨k=33 then ([3]++List.replicate (len-1) 4,decide (2≤len))
 else if k=46 then (List.replicate 1 3,decide (len=1)&&Gg l)
 else if k=47∨k=51 then (List.replicate len 1,decide (len≤1))
 else if k=50 then (List.replicate n.toNat 8++List.replicate (len-n.toNat) 6,true)
 else if k=53 then (List.replicate len 5,decide (1≤len))
 else ([],decide (len=0))
def sg (k g:Int):Bool:=if g=8 then decide (k=1) else decide (eu k=g)
mutual
def aM.la:aM→Bool
 | .mk k n a s l=>decide (eu k≠0)&&uh named k s&&hC k n l.length&&decide (0≤a)&&decide (a≤65536)&&(da k n l).2&&l2 (da k n l).1 l
def l2:List Int→List aM→Bool
 | _,[]=>true
 | [],_::_=>true
 | g::gs,t::l=>sg t.k g&&t.la&&l2 gs l
end
end
theorem Db {k:Int} {r:gQ}:∀{l:List (Int × gQ)},wO k l=some r→(k,r) ∈ l
 | [],h=>by cases h
 | (n,q)::l,h=>by
   simp only [wO] at h
   split at h
   · cases h;rename_i e;subst e;simp
   · exact List.mem_cons_of_mem _ (Db h)
theorem Q2 {k:Int} (h:lb k=none):eu k=0:=by
 by_cases aD:1≤k∧k≤53
 · obtain ⟨n,rfl⟩:=Int.eq_ofNat_of_zero_le (show 0≤k by omega)
   have key:∀n<54,(lb ((n:Nat):Int)).isNone=true→eu ((n:Nat):Int)=0:=by decide
   exact key n (by omega) (by rw [h];rfl)
 · unfold eu
   rw [if_neg (by omega),if_neg (by omega),if_neg (by omega),if_neg (by omega),if_neg (by omega),if_neg (by omega),if_neg (by omega)]
section
variable {named:Int→List UInt8→Bool}
theorem ahI {k g:Int} (h:g≠9):sg k g=rR k g:=by
 unfold sg rR
 by_cases qb:g=8
 · rw [if_pos qb,if_pos qb]
 · rw [if_neg qb,if_neg qb,if_neg h]
theorem Qh:∀{gs:List Int} {l:List aM},(∀t ∈ l,t.la named=t.may named)→(∀g ∈ gs,g≠9)→l2 named gs l=j2 named gs l
 | [],[],_,_=>by rw [l2,j2]
 | g::gs,[],_,_=>by rw [l2,j2]
 | [],t::l,_,_=>by rw [l2,j2]
 | g::gs,t::l,h,aH=>by
   rw [l2,j2,h t (by simp),ahI (aH g (by simp)),Qh (fun t aG=>h t (by simp [aG])) (fun g h=>aH g (by simp [h]))]
theorem afG {k n a:Int} {s:List UInt8} {l:List aM} {r:gQ} (aD:eu k≠0) (bb:∀t ∈ l,t.la named=t.may named) (aJ:lb k=some r)
 (aa:uh named k s=wY named r.s s) (ae:(hC k n l.length&&(da k n l).2)=(decide (r.bm≤n)&&decide (n≤r.av)&&hy r k n l.length))
 (aI:hy r k n l.length=true→r.bm≤n→(da k n l).1=lG r k n l.length) (vq:∀g ∈ lG r k n l.length,g≠9):(aM.mk k n a s l).la named=(aM.mk k n a s l).may named:=by
 rw [aM.la,aM.may,aJ]
 simp only
 unfold vB
 rw [decide_eq_true aD,Bool.true_and,aa]
 cases cI:hy r k n l.length with
 | false=>
   rw [cI,Bool.and_false] at ae
   simp only [Bool.and_false]
   have:(hC k n l.length&&(da k n l).2)=false:=ae
   rw [Bool.and_eq_false_iff] at this
   rcases this with q | q<;>rw [q]<;>simp
 | true=>
   rw [cI,Bool.and_true] at ae
   by_cases dI:r.bm≤n
   · rw [aI cI dI,Qh bb vq]
     have:∀x y z w u v:Bool,(x&&y&&z&&w&&u&&v)=(x&&(y&&u)&&z&&w&&v):=by decide
     rw [this,ae]
     simp only [Bool.and_true]
     have:∀x y z w u v:Bool,(x&&(y&&z)&&w&&u&&v)=(y&&z&&w&&u&&x&&v):=by decide
     rw [this]
   · rw [decide_eq_false dI,Bool.false_and] at ae
     rw [decide_eq_false dI]
     simp only [Bool.false_and]
     rw [Bool.and_eq_false_iff] at ae
     rcases ae with q | q<;>rw [q]<;>simp
set_option maxHeartbeats 4000000 in
theorem Ps:∀(N:Nat) (t:aM),t.size≤N→N≤1000000000→t.la named=t.may named
 | 0,t,aR,_=>by have:=mE t;omega
 | N+1,.mk k n a s l,aR,bD=>by
   have gR:l.length≤1000000000:=by have:=l3 l;simp only [aM.size] at aR;omega
   have bb:∀t ∈ l,t.la named=t.may named:=fun t aG=>Ps N t (by have:=mD (t:=.mk k n a s l) (u:=t) aG;omega) (by omega)
   cases aJ:lb k with
   | none=>
     rw [aM.la,aM.may,aJ,Q2 aJ]
     simp
   | some r=>
     have hm:=Db (l:=qT) aJ
     by_cases Ng:k=46
     · subst Ng
       have:r={s:=1,first:=[9]}:=by
        have:lb 46=some {s:=1,first:=[9]}:=by rfl
        rw [aJ] at this
        exact Option.some.inj this
       subst this
       rw [aM.la,aM.may,aJ]
       simp only
       have aB:uh named 46 s=wY named 1 s:=by rfl
       have aO:hC 46 n l.length=(decide (0≤n)&&decide (n≤0)):=by
        rw [Bool.eq_iff_iff];simp [hC];omega
       unfold vB
       rw [aB,aO,decide_eq_true (show eu 46≠0 by decide)]
       match l,bb with
       | [],_=>simp [da,hy,fl,firstM]
       | [t],bb=>
         have aH:lG {s:=1,first:=[9]} 46 n [t].length=[9]:=by simp [lG,firstM,fl]
         have tj:da 46 n [t]=([3],decide (t.k=27)):=by simp [da,Gg]
         rw [aH,tj,l2,j2,l2,j2,bb t (by simp)]
         have cI:hy {s:=1,first:=[9]} 46 n [t].length=true:=by simp [hy,fl,firstM]
         rw [cI]
         have av:rR t.k 9=decide (t.k=27):=by simp [rR]
         rw [av]
         by_cases Gn:t.k=27
         · rw [decide_eq_true Gn]
           have:sg t.k 3=true:=by rw [Gn];decide
           rw [this]
           have:∀x y z w u v:Bool,(true&&x&&(y&&z)&&w&&u&&true&&(true&&v&&true))=(y&&z&&w&&u&&x&&true&&(true&&v&&true)):=by decide
           apply this
         · rw [decide_eq_false Gn]
           simp
       | t::u::l,_=>
         have aa:(da 46 n (t::u::l)).2=false:=by simp [da]
         have ae:hy {s:=1,first:=[9]} 46 n (t::u::l).length=false:=by
          simp [hy,fl,firstM]
         rw [aa,ae]
         simp
     · simp only [qT,List.mem_cons,Prod.mk.injEq,List.not_mem_nil,or_false] at hm
       rcases hm with h | h | h | h | h | h | h | h | h | h | h | h | h | h | h | h | h | h | h | h | h | h | h | h | h | h | h | h | h | h | h | h | h | h | h | h | h | h<;>
       obtain ⟨rfl,rfl⟩:=h<;>first | (exact absurd rfl Ng) | skip
       all_goals
        refine afG (by decide) bb aJ (by rfl) ?_ ?_ ?_
        · rw [Bool.eq_iff_iff]
          simp [hC,da,hy,fl,firstM]
          try omega
        · intro cI dI
          simp [da,hy,fl,firstM,lG] at cI dI ⊢
          try omega
        · simp [lG,firstM,fl]
          try (intro g aH;omega)
end
end Go.Proofs.YtkehcalakofigaaGreatDoor
namespace Go.Proofs.YtkehcalakofigaaGreatDoor
open Go aS
abbrev Nm:=List UInt8
mutual
def aM.same:aM→aM→Bool
 | .mk k n _ s l,.mk bn hz _ fY dL=>decide (k=bn)&&decide (n=hz)&&decide (s=fY)&&iE l dL
def iE:List aM→List aM→Bool
 | [],[]=>true
 | t::l,u::m=>t.same u&&iE l m
 | [],_::_=>false
 | _::_,[]=>false
end
theorem Q_ (t u:aM):t.same u=(decide (t.k=u.k)&&decide (t.n=u.n)&&decide (t.s=u.s)&&iE t.l u.l):=by
 cases t;cases u;rw [aM.same];rfl
theorem I7:∀{l m:List aM},iE l m=true→l.length=m.length
 | [],[],_=>rfl
 | t::l,u::m,h=>by
   rw [iE,Bool.and_eq_true] at h
   rw [List.length_cons,List.length_cons,I7 h.2]
 | [],_::_,h=>by rw [iE] at h;cases h
 | _::_,[],h=>by rw [iE] at h;cases h
theorem I6:∀{l m:List aM} {i:Nat} (aa:i<l.length) (ae:i<m.length),iE (l.drop i) (m.drop i)=(l[i].same m[i]&&iE (l.drop (i+1)) (m.drop (i+1)))
 | t::l,u::m,0,_,_=>by simp only [List.drop_zero,List.drop_succ_cons,iE,List.getElem_cons_zero]
 | t::l,u::m,i+1,aa,ae=>by
   simp only [List.drop_succ_cons,List.getElem_cons_succ]
   exact I6 (by simpa using aa) (by simpa using ae)
def nw (l:List aM):List Nm:=((hL l).filter fun p=>decide (p.k=11)).map aM.s
def aM.names (t:aM):List Nm:=(t.pre.filter fun p=>decide (p.k=11)).map aM.s
def pv (t:aM):List Nm:=if t.k=11 then [t.s] else []
theorem afX (t:aM):t.names=pv t++nw t.l:=by
 unfold aM.names nw pv
 rw [I2,List.filter_cons]
 by_cases h:t.k=11
 · rw [if_pos h,if_pos (decide_eq_true h)];rfl
 · rw [if_neg h,if_neg (by simpa using h)];rfl
theorem afU (l m:List aM):nw (l++m)=nw l++nw m:=by
 unfold nw
 rw [I3,List.filter_append,List.map_append]
theorem afW (t:aM):nw [t]=t.names:=by
 unfold nw aM.names
 rw [hL,hL,List.append_nil]
theorem Cp (t:aM):t.names.length≤t.size:=by
 unfold aM.names
 rw [List.length_map,←Qo]
 exact List.length_filter_le _ _
theorem afV (l:List aM):(nw l).length≤dt l:=by
 unfold nw
 rw [List.length_map,←CW]
 exact List.length_filter_le _ _
def h5 (l:List aM):List Nm:=(l.filter fun p=>decide (p.k=46)).map aM.s
theorem AK (l m:List aM):h5 (l++m)=h5 l++h5 m:=by
 unfold h5
 rw [List.filter_append,List.map_append]
theorem xB (l:List aM):(h5 l).length≤l.length:=by
 unfold h5
 rw [List.length_map]
 exact List.length_filter_le _ _
def me:List aM→List Nm
 | []=>[]
 | t::_=>t.names
def e2 (k:Int) (l:List aM) (i:Nat):List Nm:=
 if k=27∨k=45 then (if i=1 then me l else []) else if k=29 then (if i=2 then me l else []) else if k=30∨k=53 then h5 l else []
def gB (O:List Nm) (s:Nm):List Nm:=if s ∈ O then O else O++[s]
def gq:List Nm→Nm→List Nm
 | [],s=>[s]
 | x::l,s=>if x<s then x::gq l s else if x=s then x::l else s::x::l
section
variable (u:List Nm→Nm→List Nm)
mutual
def aM.dB:aM→List Nm→List Nm→List Nm
 | .mk k n a s l,B,O=>if k=24∧¬s ∈ B then u O s else fS k l 0 l B O
def fS (k:Int) (ie:List aM):Nat→List aM→List Nm→List Nm→List Nm
 | _,[],_,O=>O
 | i,t::l,B,O=>fS k ie (i+1) l B (t.dB (B++e2 k ie i) O)
end
theorem Bn (t:aM) (B O:List Nm):t.dB u B O=if t.k=24∧¬t.s ∈ B then u O t.s else fS u t.k t.l 0 t.l B O:=by
 cases t;rw [aM.dB];rfl
theorem Gf (k:Int) (ie:List aM):∀{l:List aM} {i j:Nat} (h:i<l.length) (B O:List Nm),fS u k ie j (l.drop i) B O=fS u k ie (j+1) (l.drop (i+1)) B (l[i].dB u (B++e2 k ie j) O)
 | t::l,0,j,_,B,O=>by simp only [List.drop_zero,List.drop_succ_cons,fS,List.getElem_cons_zero]
 | t::l,i+1,j,h,B,O=>by
   simp only [List.drop_succ_cons,List.getElem_cons_succ]
   exact Gf k ie (by simpa using h) B O
end
theorem Qy (O:List Nm) (s x:Nm):x ∈ gB O s↔x=s∨x ∈ O:=by
 unfold gB
 split
 · exact ⟨.inr,fun h=>by rcases h with rfl | h<;>assumption⟩
 · simp [or_comm]
theorem ahf {O:List Nm} (h:O.Nodup) (s:Nm):(gB O s).Nodup:=by
 unfold gB
 split
 · exact h
 · rename_i q
   rw [List.nodup_append]
   exact ⟨h,by simp,fun a br b ai e=>by rw [List.mem_singleton] at ai;subst ai;subst e;exact q br⟩
theorem JY (s x:Nm):∀R:List Nm,x ∈ gq R s↔x=s∨x ∈ R
 | []=>by simp [gq]
 | y::R=>by
   unfold gq
   by_cases bz:y<s
   · rw [if_pos bz,List.mem_cons,JY s x R,List.mem_cons]
     exact ⟨fun h=>by rcases h with h | h | h<;>simp [h],fun h=>by rcases h with h | h | h<;>simp [h]⟩
   · by_cases bN:y=s
     · subst bN;rw [if_neg bz,if_pos rfl];simp
     · rw [if_neg bz,if_neg bN];simp
theorem Ph {a b c:Nm} (h:a<b) (ae:b<c):a<c:=List.lt_trans h ae
theorem Pj {a b:Nm} (h:¬a<b) (ae:¬a=b):b<a:=by
 rcases List.le_total b a with q | q
 · exact Classical.byContradiction fun z=>ae (List.le_antisymm (List.not_lt.1 z) q)
 · exact absurd (List.le_antisymm q (List.not_lt.1 h)) ae
theorem R4 (s:Nm):∀{R:List Nm},R.Pairwise (· < ·)→(gq R s).Pairwise (· < ·)
 | [],_=>List.pairwise_singleton _ _
 | y::R,h=>by
   obtain ⟨aa,ae⟩:=List.pairwise_cons.1 h
   unfold gq
   by_cases bz:y<s
   · rw [if_pos bz]
     refine List.pairwise_cons.2 ⟨fun z bj=>?_,R4 s ae⟩
     rcases (JY s z R).1 bj with rfl | bj
     · exact bz
     · exact aa z bj
   · by_cases bN:y=s
     · rw [if_neg bz,if_pos bN];exact h
     · rw [if_neg bz,if_neg bN]
       refine List.pairwise_cons.2 ⟨fun z bj=>?_,h⟩
       rcases List.mem_cons.1 bj with rfl | bj
       · exact Pj bz bN
       · exact Ph (Pj bz bN) (aa z bj)
structure lj (O R:List Nm):Prop where
 mem:∀x,x ∈ O↔x ∈ R
 Iv:O.Nodup
 st:R.Pairwise (· < ·)
theorem lj.one {O R:List Nm} (G:lj O R) (s:Nm):lj (gB O s) (gq R s):=
 ⟨fun x=>by rw [Qy,JY,G.mem],ahf G.Iv s,R4 s G.st⟩
mutual
theorem MQ:∀(t:aM) (B:List Nm) {O R:List Nm},lj O R→lj (t.dB gB B O) (t.dB gq B R)
 | .mk k n a s l,B,O,R,G=>by
   rw [aM.dB,aM.dB]
   split
   · exact G.one s
   · exact MT k l 0 l B G
theorem MT (k:Int) (ie:List aM):∀(i:Nat) (l:List aM) (B:List Nm) {O R:List Nm},lj O R→lj (fS gB k ie i l B O) (fS gq k ie i l B R)
 | _,[],_,O,R,G=>by rw [fS,fS];exact G
 | i,t::l,B,O,R,G=>by
   rw [fS,fS]
   exact MT k ie (i+1) l B (MQ t _ G)
end
theorem lj.nil:lj [] []:=⟨fun x=>Iff.rfl,List.nodup_nil,.nil⟩
theorem lj.perm {O R:List Nm} (G:lj O R):O.Perm R:=by
 refine (List.perm_ext_iff_of_nodup G.Iv (G.st.imp fun {a b} h e=>?_)).2 G.mem
 subst e
 exact absurd h (List.lt_irrefl _)
theorem lj.le {O R:List Nm} (G:lj O R):R.Pairwise (·≤·):=G.st.imp fun {a b} h=>List.not_lt.1 fun q=>absurd (Ph h q) (List.lt_irrefl _)
mutual
theorem Ge (u:List Nm→Nm→List Nm) (hu:∀O s,(u O s).length≤O.length+1):∀(t:aM) (B O:List Nm),(t.dB u B O).length≤O.length+t.size
 | .mk k n a s l,B,O=>by
   rw [aM.dB,aM.size]
   split
   · have:=hu O s;omega
   · have:=MU u hu k l 0 l B O;omega
theorem MU (u:List Nm→Nm→List Nm) (hu:∀O s,(u O s).length≤O.length+1) (k:Int) (ie:List aM):∀(i:Nat) (l:List aM) (B O:List Nm),(fS u k ie i l B O).length≤O.length+dt l
 | _,[],_,O=>by rw [fS,dt];omega
 | i,t::l,B,O=>by
   rw [fS,dt]
   have:=Ge u hu t (B++e2 k ie i) O
   have:=MU u hu k ie (i+1) l B (t.dB u (B++e2 k ie i) O)
   omega
end
theorem ahe (O:List Nm) (s:Nm):(gB O s).length≤O.length+1:=by unfold gB;split<;>simp
theorem R3 (s:Nm):∀O:List Nm,(gq O s).length≤O.length+1
 | []=>by simp [gq]
 | x::l=>by
   unfold gq
   have:=R3 s l
   split
   · simp only [List.length_cons];omega
   · split<;>simp only [List.length_cons]<;>omega
end Go.Proofs.YtkehcalakofigaaGreatDoor
namespace Go.Proofs.YtkehcalakofigaaGreatDoor
open Go aS
def LC:bC:=
 .block 1 (.seq (.an [ag 24 5,dA 25 24,eb 26 25,bE 27 26,ag 7 27])
 (.seq (.block 2 (.seq (.an [ag 37 7,ag 38 0,jF 39 38,uK 40 37 39,ag 36 40])
 (.cond (.t 36)
 (.exit 0)
 (.seq (.an [ag 42 0,ag 43 7,Ah 44 42 43,⟨some 45,.call 92 [(.c (.str [9,10,13,32])),(.t 44)],none,[44]⟩,Ad 46 45,ag 41 46])
 (.cond (.t 41)
 (.an [ag 47 5,dA 48 47,eb 49 48,bE 50 49,eN 51 50,dA 52 47,eb 53 52,⟨none,.st 1 (.t 53) (.t 51),none,[53,51]⟩])
 (.seq (.an [ag 55 5,⟨some 56,.call 93 [(.t 55),(.c (.str [40,42]))],none,[55]⟩,ag 54 56])
 (.cond (.t 54)
 (.an [ag 57 5,⟨some 58,.call 94 [(.t 57)],none,[57]⟩])
 (.seq (.an [ag 28 5,⟨some 29,.call 95 [(.t 28)],none,[28]⟩,xj 8,⟨none,.st 4 (.t 8) (.t 29),none,[8,29]⟩])
 (.seq (.an [ag 30 7,l7 31 8,⟨none,.st 1 (.t 31) (.t 30),none,[31,30]⟩])
 (.an [ag 32 6,⟨some 33,.iQ 4 (.t 8),none,[8]⟩,⟨some 34,.hc 1 4 [(.int .i64 0),(.int .i64 0),(.int .i64 0),(.str [])] [(0,4,(.t 33))],none,[33]⟩,⟨some 35,.app 4 (.t 32) (.t 34),none,[32,34]⟩,ag 6 35]))))))))))
 (.seq (.an [ag 59 5,dA 60 59,l7 61 60,bE 62 61,⟨some 63,.bin (.int .neq) (.t 62) (.c (.int .i64 0)),none,[62]⟩])
 (.cond (.t 63)
 (.seq (.draw [ag 64 5,dA 65 64,l7 66 65,bE 67 66,ag 68 7,⟨some 69,.build [(.int .i64 0),(.int .i64 0)] [(0,1,(.t 67)),(1,1,(.t 68))],none,[67,68]⟩,fm 2,⟨none,.st 2 (.t 3) (.t 69),none,[3,69]⟩] [(3,[7])])
 (.ret))
 (.skip)))))
def Ft:bC:=
 .seq (.an [fm 2,⟨some 3,.new [(.int .i64 0),(.int .i64 0)],none,[]⟩])
 (.seq (.seq (.an [ag 9 0,jF 10 9,⟨some 11,.bin (.int .gtr) (.t 10) (.c (.int .i64 65536)),none,[10]⟩])
 (.cond (.t 11)
 (.seq (.an [⟨some 12,.build [(.int .i64 0),(.int .i64 0)] [(0,1,(.c (.int .i64 3)))],none,[]⟩,fm 2,⟨none,.st 2 (.t 3) (.t 12),none,[3,12]⟩])
 (.ret))
 (.skip)))
 (.seq (.seq (.an [ag 13 0,⟨some 14,.call 91 [(.t 13)],none,[13]⟩,ag 4 14])
 (.seq (.an [ag 15 4,ag 16 0,jF 17 16,fg 18 15 17])
 (.cond (.t 18)
 (.seq (.an [ag 19 4,⟨some 20,.build [(.int .i64 0),(.int .i64 0)] [(0,1,(.c (.int .i64 250))),(1,1,(.t 19))],none,[19]⟩,fm 2,⟨none,.st 2 (.t 3) (.t 20),none,[3,20]⟩])
 (.ret))
 (.skip))))
 (.seq (.an [ag 21 0,⟨some 22,.build [(.str []),(.int .i64 0),(.int .i64 0)] [(0,1,(.t 21))],none,[21]⟩,fI 23 22,ag 5 23])
 (.seq (.an [fm 6])
 (.seq (.skip)
 (.seq (.block 0 (.loop LC))
 (.seq (.an [ag 70 6,⟨some 71,.build [(.int .i64 0),(.int .i64 0)] [],none,[]⟩,ag 2 70,⟨none,.st 2 (.t 3) (.t 71),none,[3,71]⟩])
 (.ret))))))))
theorem Xo:b9 Tryz.prog Tryz.f72.ntmps (Tryz.f72.body.getD .skip)=Ft:=by kernel_rfl
theorem Xp:cC Tryz.prog Tryz.f72.ntmps Tryz.f72.results.toList=[.t 2,.j' 3 2]:=by kernel_rfl
theorem Xn {args:List V} {h:af} {K:V→af→Prop} (ak:Nat.ble args.length 72=true) (H:b8 Tryz.prog Ft (aT.bh args) h fun e r ab=>e.ends∧∃ad,cv r ab [.t 2,.j' 3 2]=some ad∧K (oneOf ad) ab):bB Tryz.prog 72 args h K:=
 cY follows cP Tryz.func72 (c:=Tryz.f72.body.getD .skip) (by kernel_rfl) (by kernel_rfl) (by kernel_rfl) ak Xo Xp (by kernel_rfl) H
def LF:bC:=
 .seq (.an [⟨some 9,.wB (.t 8),none,[8]⟩,ra 10 9])
 (.seq (.cond (.t 10)
 (.skip)
 (.exit 0))
 (.block 1 (.seq (.an [rb 11 9,⟨some 12,.ext (.t 9) 2,none,[9]⟩,ag 3 11,ag 4 12])
 (.seq (.an [ag 13 4,⟨some 14,.bin (.int .eql) (.t 13) (.c (.int .i32 65533)),none,[13]⟩])
 (.cond (.t 14)
 (.seq (.an [ag 16 0,ag 17 3,D3 18 16 17,⟨some 19,.call 102 [(.t 18)],none,[18]⟩,ag 15 19,ra 20 15,rb 21 15,ag 5 20,ag 6 21])
 (.seq (.an [ag 22 6,re 23 22])
 (.cond (.t 23)
 (.seq (.an [ag 24 3,ag 2 24])
 (.ret))
 (.skip))))
 (.skip))))))
def Fz:bC:=
 .seq (.an [eO 2])
 (.seq (.seq (.an [ag 7 0,⟨some 8,.wN (.t 7),none,[7]⟩])
 (.block 0 (.loop LF)))
 (.seq (.an [ag 25 0,jF 26 25,ag 2 26])
 (.ret)))
theorem XK:b9 Tryz.prog Tryz.f91.ntmps (Tryz.f91.body.getD .skip)=Fz:=by kernel_rfl
theorem XL:cC Tryz.prog Tryz.f91.ntmps Tryz.f91.results.toList=[.t 2]:=by kernel_rfl
theorem XJ {args:List V} {h:af} {K:V→af→Prop} (ak:Nat.ble args.length 27=true) (H:b8 Tryz.prog Fz (aT.bh args) h fun e r ab=>e.ends∧∃ad,cv r ab [.t 2]=some ad∧K (oneOf ad) ab):bB Tryz.prog 91 args h K:=
 cY follows cP Tryz.func91 (c:=Tryz.f91.body.getD .skip) (by kernel_rfl) (by kernel_rfl) (by kernel_rfl) ak XK XL (by kernel_rfl) H
def FA:bC:=
 .seq (.an [eO 4])
 (.seq (.an [ag 5 0,ag 6 1,⟨some 7,.call 103 [(.t 5),(.t 6)],none,[5,6]⟩,ag 4 7])
 (.ret))
theorem XN:b9 Tryz.prog Tryz.f92.ntmps (Tryz.f92.body.getD .skip)=FA:=by kernel_rfl
theorem XO:cC Tryz.prog Tryz.f92.ntmps Tryz.f92.results.toList=[.t 4]:=by kernel_rfl
theorem XM {args:List V} {h:af} {K:V→af→Prop} (ak:Nat.ble args.length 8=true) (H:b8 Tryz.prog FA (aT.bh args) h fun e r ab=>e.ends∧∃ad,cv r ab [.t 4]=some ad∧K (oneOf ad) ab):bB Tryz.prog 92 args h K:=
 cY follows cP Tryz.func92 (c:=Tryz.f92.body.getD .skip) (by kernel_rfl) (by kernel_rfl) (by kernel_rfl) ak XN XO (by kernel_rfl) H
def FB:bC:=
 .seq (.an [dq 4])
 (.seq (.draw [ag 5 0,dA 6 5,eF 7 6,bE 8 7,ag 9 0,dA 10 9,eb 11 10,bE 12 11,D3 13 8 12,ag 14 1,⟨some 15,.call 104 [(.t 13),(.t 14)],none,[13,14]⟩,ag 4 15] [(3,[10]),(7,[10])])
 (.ret))
theorem XQ:b9 Tryz.prog Tryz.f93.ntmps (Tryz.f93.body.getD .skip)=FB:=by kernel_rfl
theorem XR:cC Tryz.prog Tryz.f93.ntmps Tryz.f93.results.toList=[.t 4]:=by kernel_rfl
theorem XP {args:List V} {h:af} {K:V→af→Prop} (ak:Nat.ble args.length 16=true) (H:b8 Tryz.prog FB (aT.bh args) h fun e r ab=>e.ends∧∃ad,cv r ab [.t 4]=some ad∧K (oneOf ad) ab):bB Tryz.prog 93 args h K:=
 cY follows cP Tryz.func93 (c:=Tryz.f93.body.getD .skip) (by kernel_rfl) (by kernel_rfl) (by kernel_rfl) ak XQ XR (by kernel_rfl) H
def LG:bC:=
 .block 1 (.block 2 (.seq (.draw [ag 11 0,dA 12 11,eb 13 12,bE 14 13,ag 15 0,dA 16 15,eF 17 16,bE 18 17,jF 19 18,uK 20 14 19,ag 10 20] [])
 (.cond (.t 10)
 (.seq (.an [ag 21 0,dA 22 21,l7 23 22,⟨none,.st 1 (.t 23) (.c (.int .i64 253)),none,[23]⟩])
 (.ret))
 (.seq (.an [ag 25 0,⟨some 26,.call 93 [(.t 25),(.c (.str [40,42]))],none,[25]⟩,ag 24 26])
 (.cond (.t 24)
 (.seq (.an [ag 27 2,eN 28 27,ag 2 28])
 (.an [ag 29 0,dA 30 29,eb 31 30,bE 32 31,⟨some 33,.bin (.int .add) (.t 32) (.c (.int .i64 2)),none,[32]⟩,dA 34 29,eb 35 34,⟨none,.st 1 (.t 35) (.t 33),none,[35,33]⟩]))
 (.seq (.an [ag 37 0,⟨some 38,.call 93 [(.t 37),(.c (.str [42,41]))],none,[37]⟩,ag 36 38])
 (.cond (.t 36)
 (.seq (.an [ag 39 2,z6 40 39,ag 2 40])
 (.seq (.an [ag 41 0,dA 42 41,eb 43 42,bE 44 43,⟨some 45,.bin (.int .add) (.t 44) (.c (.int .i64 2)),none,[44]⟩,dA 46 41,eb 47 46,⟨none,.st 1 (.t 47) (.t 45),none,[47,45]⟩])
 (.seq (.an [ag 48 2,rf 49 48])
 (.cond (.t 49)
 (.ret)
 (.skip)))))
 (.an [ag 3 0,dA 4 3,eb 5 4,bE 6 5,eN 7 6,dA 8 3,eb 9 8,⟨none,.st 1 (.t 9) (.t 7),none,[9,7]⟩]))))))))
def FC:bC:=
 .seq (.an [eO 2])
 (.block 0 (.loop LG))
theorem XT:b9 Tryz.prog Tryz.f94.ntmps (Tryz.f94.body.getD .skip)=FC:=by kernel_rfl
theorem XU:cC Tryz.prog Tryz.f94.ntmps Tryz.f94.results.toList=[]:=by kernel_rfl
theorem XS {args:List V} {h:af} {K:V→af→Prop} (ak:Nat.ble args.length 50=true) (H:b8 Tryz.prog FC (aT.bh args) h fun e r ab=>e.ends∧∃ad,cv r ab []=some ad∧K (oneOf ad) ab):bB Tryz.prog 94 args h K:=
 cY follows cP Tryz.func94 (c:=Tryz.f94.body.getD .skip) (by kernel_rfl) (by kernel_rfl) (by kernel_rfl) ak XT XU (by kernel_rfl) H
def LH:bC:=
 .seq (.an [fg 80 79 78])
 (.seq (.cond (.t 80)
 (.skip)
 (.exit 1))
 (.seq (.block 2 (.seq (.an [ll 81 77 79,bE 82 81,ag 5 82])
 (.seq (.an [ag 83 0,ag 84 5,⟨some 85,.call 93 [(.t 83),(.t 84)],none,[83,84]⟩])
 (.cond (.t 85)
 (.seq (.an [ag 86 0,dA 87 86,eb 88 87,bE 89 88,ag 90 5,jF 91 90,uH 92 89 91,dA 93 86,eb 94 93,⟨none,.st 1 (.t 94) (.t 92),none,[94,92]⟩])
 (.seq (.an [ag 95 5,Ks 96 95,⟨none,.st 4 (.t 2) (.t 96),none,[2,96]⟩])
 (.ret)))
 (.skip)))))
 (.an [eN 97 79,ag 79 97])))
def FD:bC:=
 .seq (.an [xj 2])
 (.seq (.draw [ag 6 0,dA 7 6,eF 8 7,bE 9 8,ag 10 0,dA 11 10,eb 12 11,bE 13 12,Ah 14 9 13,ag 3 14] [])
 (.seq (.block 0 (.seq (.an [ag 16 3,⟨some 17,.call 105 [(.t 16)],none,[16]⟩,ag 15 17])
 (.cond (.t 15)
 (.seq (.an [ag 18 0,⟨some 19,.call 106 [(.t 18)],none,[18]⟩,⟨none,.st 4 (.t 2) (.t 19),none,[2,19]⟩])
 (.ret))
 (.seq (.an [ag 21 3,⟨some 22,.bin (.int .eql) (.t 21) (.c (.int .u8 34)),none,[21]⟩,ag 20 22])
 (.cond (.t 20)
 (.seq (.an [ag 23 0,⟨some 24,.call 107 [(.t 23)],none,[23]⟩,⟨none,.st 4 (.t 2) (.t 24),none,[2,24]⟩])
 (.ret))
 (.seq (.an [ag 26 3,⟨some 27,.call 108 [(.t 26)],none,[26]⟩,ag 28 27,ho 29 3 28,Aj 30 29 28,eV 31 28 30,ag 25 31])
 (.cond (.t 25)
 (.seq (.an [ag 32 0,⟨some 33,.call 109 [(.t 32),(.c (.int .i64 3))],none,[32]⟩,⟨none,.st 4 (.t 2) (.t 33),none,[2,33]⟩])
 (.ret))
 (.seq (.an [ag 35 3,⟨some 36,.call 110 [(.t 35)],none,[35]⟩,ag 34 36])
 (.cond (.t 34)
 (.seq (.an [ag 37 0,⟨some 38,.call 109 [(.t 37),(.c (.int .i64 4))],none,[37]⟩,⟨none,.st 4 (.t 2) (.t 38),none,[2,38]⟩])
 (.ret))
 (.seq (.draw [ag 40 3,⟨some 41,.bin (.int .eql) (.t 40) (.c (.int .u8 39)),none,[40]⟩,ag 42 41,c0 43 0 42,uM 44 43 42,oN 45 44 42,fx 46 45 42,DQ 47 46 42,c0 48 0 42,uM 49 48 42,xi 50 49 42,fx 51 50 42,⟨some 52,.len .str (.t 51),(some (42,true)),[51,42]⟩,⟨some 53,.bin (.int .lss) (.t 47) (.t 52),(some (42,true)),[47,52,42]⟩,c8 54 42 53,ag 55 54,c0 56 0 55,uM 57 56 55,xi 58 57 55,fx 59 58 55,c0 60 0 55,uM 61 60 55,oN 62 61 55,fx 63 62 55,DQ 64 63 55,⟨some 65,.k4 (.t 59) (.t 64),(some (55,true)),[59,64,55]⟩,⟨some 66,.call 108 [(.t 65)],(some (55,true)),[65,55]⟩,c8 67 55 66,ag 39 67] [(6,[26]),(11,[26]),(19,[26]),(23,[26])])
 (.cond (.t 39)
 (.seq (.an [ag 68 0,dA 69 68,eb 70 69,bE 71 70,eN 72 71,dA 73 68,eb 74 73,⟨none,.st 1 (.t 74) (.t 72),none,[74,72]⟩])
 (.seq (.an [ag 75 0,⟨some 76,.call 109 [(.t 75),(.c (.int .i64 5))],none,[75]⟩,⟨none,.st 4 (.t 2) (.t 76),none,[2,76]⟩])
 (.ret)))
 (.skip))))))))))))
 (.seq (.seq (.an [⟨some 77,.call 111 [],none,[]⟩,ea 78 77,eO 79])
 (.block 1 (.loop LH)))
 (.seq (.an [ag 98 0,dA 99 98,l7 100 99,⟨none,.st 1 (.t 100) (.c (.int .i64 251)),none,[100]⟩])
 (.seq (.an [D4 101,⟨none,.st 4 (.t 2) (.t 101),none,[2,101]⟩])
 (.ret))))))
theorem XW:b9 Tryz.prog Tryz.f95.ntmps (Tryz.f95.body.getD .skip)=FD:=by kernel_rfl
theorem XX:cC Tryz.prog Tryz.f95.ntmps Tryz.f95.results.toList=[.j' 2 4]:=by kernel_rfl
theorem XV {args:List V} {h:af} {K:V→af→Prop} (ak:Nat.ble args.length 102=true) (H:b8 Tryz.prog FD (aT.bh args) h fun e r ab=>e.ends∧∃ad,cv r ab [.j' 2 4]=some ad∧K (oneOf ad) ab):bB Tryz.prog 95 args h K:=
 cY follows cP Tryz.func95 (c:=Tryz.f95.body.getD .skip) (by kernel_rfl) (by kernel_rfl) (by kernel_rfl) ak XW XX (by kernel_rfl) H
def EF:bC:=
 .seq (.an [eO 4])
 (.seq (.an [ag 5 0,ag 6 1,⟨some 7,.call 114 [(.t 5),(.t 6)],none,[5,6]⟩,ag 4 7])
 (.ret))
theorem UJ:b9 Tryz.prog Tryz.f103.ntmps (Tryz.f103.body.getD .skip)=EF:=by kernel_rfl
theorem UK:cC Tryz.prog Tryz.f103.ntmps Tryz.f103.results.toList=[.t 4]:=by kernel_rfl
theorem UI {args:List V} {h:af} {K:V→af→Prop} (ak:Nat.ble args.length 8=true) (H:b8 Tryz.prog EF (aT.bh args) h fun e r ab=>e.ends∧∃ad,cv r ab [.t 4]=some ad∧K (oneOf ad) ab):bB Tryz.prog 103 args h K:=
 cY follows cP Tryz.func103 (c:=Tryz.f103.body.getD .skip) (by kernel_rfl) (by kernel_rfl) (by kernel_rfl) ak UJ UK (by kernel_rfl) H
def EG:bC:=
 .seq (.an [dq 4])
 (.seq (.an [ag 5 0,ag 6 1,⟨some 7,.call 115 [(.t 5),(.t 6)],none,[5,6]⟩,ag 4 7])
 (.ret))
theorem UM:b9 Tryz.prog Tryz.f104.ntmps (Tryz.f104.body.getD .skip)=EG:=by kernel_rfl
theorem UN:cC Tryz.prog Tryz.f104.ntmps Tryz.f104.results.toList=[.t 4]:=by kernel_rfl
theorem UL {args:List V} {h:af} {K:V→af→Prop} (ak:Nat.ble args.length 8=true) (H:b8 Tryz.prog EG (aT.bh args) h fun e r ab=>e.ends∧∃ad,cv r ab [.t 4]=some ad∧K (oneOf ad) ab):bB Tryz.prog 104 args h K:=
 cY follows cP Tryz.func104 (c:=Tryz.f104.body.getD .skip) (by kernel_rfl) (by kernel_rfl) (by kernel_rfl) ak UM UN (by kernel_rfl) H
def EH:bC:=
 .seq (.an [dq 2])
 (.seq (.an [ag 3 0,⟨some 4,.bin (.int .geq) (.t 3) (.c (.int .u8 48)),none,[3]⟩,ag 5 4,c0 6 0 5,⟨some 7,.bin (.int .leq) (.t 6) (.c (.int .u8 57)),(some (5,true)),[6,5]⟩,c8 8 5 7,ag 2 8])
 (.ret))
theorem UP:b9 Tryz.prog Tryz.f105.ntmps (Tryz.f105.body.getD .skip)=EH:=by kernel_rfl
theorem UQ:cC Tryz.prog Tryz.f105.ntmps Tryz.f105.results.toList=[.t 2]:=by kernel_rfl
theorem UO {args:List V} {h:af} {K:V→af→Prop} (ak:Nat.ble args.length 9=true) (H:b8 Tryz.prog EH (aT.bh args) h fun e r ab=>e.ends∧∃ad,cv r ab [.t 2]=some ad∧K (oneOf ad) ab):bB Tryz.prog 105 args h K:=
 cY follows cP Tryz.func105 (c:=Tryz.f105.body.getD .skip) (by kernel_rfl) (by kernel_rfl) (by kernel_rfl) ak UP UQ (by kernel_rfl) H
def EI:bC:=
 .seq (.an [xj 2])
 (.seq (.an [ag 7 0,⟨some 8,.call 117 [(.t 7),(.c (.func 105 []))],none,[7]⟩,⟨some 9,.call 116 [(.t 8),(.c (.int .i64 10)),(.c (.int .i64 64))],none,[8]⟩,ag 6 9,ra 10 6,rb 11 6,ag 3 10,ag 4 11])
 (.seq (.seq (.an [ag 12 4,⟨some 13,.bin (.jL true 5) (.t 12) (.c .nilIface),none,[12]⟩,ag 14 13,ho 15 3 14,⟨some 16,.bin (.int .gtr) (.t 15) (.c (.int .u64 2147483647)),(some (14,false)),[15,14]⟩,eV 17 14 16])
 (.cond (.t 17)
 (.seq (.an [ag 18 0,dA 19 18,l7 20 19,⟨none,.st 1 (.t 20) (.c (.int .i64 254)),none,[20]⟩])
 (.seq (.an [D4 21,⟨none,.st 4 (.t 2) (.t 21),none,[2,21]⟩])
 (.ret)))
 (.skip)))
 (.seq (.an [ag 22 3,⟨some 23,.hT (.int .i64) (.t 22),none,[22]⟩,ag 5 23])
 (.seq (.seq (.an [ag 24 5,⟨some 25,.bin (.int .gtr) (.t 24) (.c (.int .i64 1073741823)),none,[24]⟩])
 (.cond (.t 25)
 (.an [ag 26 5,⟨some 27,.bin (.int .sub) (.t 26) (.c (.int .i64 2147483648)),none,[26]⟩,ag 5 27])
 (.skip)))
 (.seq (.an [ag 28 5,⟨some 29,.build [(.int .i64 0),(.int .i64 0),(.int .i64 0),(.str [])] [(0,1,(.c (.int .i64 1))),(1,1,(.t 28))],none,[28]⟩,⟨none,.st 4 (.t 2) (.t 29),none,[2,29]⟩])
 (.ret))))))
theorem US:b9 Tryz.prog Tryz.f106.ntmps (Tryz.f106.body.getD .skip)=EI:=by kernel_rfl
theorem UT:cC Tryz.prog Tryz.f106.ntmps Tryz.f106.results.toList=[.j' 2 4]:=by kernel_rfl
theorem UR {args:List V} {h:af} {K:V→af→Prop} (ak:Nat.ble args.length 30=true) (H:b8 Tryz.prog EI (aT.bh args) h fun e r ab=>e.ends∧∃ad,cv r ab [.j' 2 4]=some ad∧K (oneOf ad) ab):bB Tryz.prog 106 args h K:=
 cY follows cP Tryz.func106 (c:=Tryz.f106.body.getD .skip) (by kernel_rfl) (by kernel_rfl) (by kernel_rfl) ak US UT (by kernel_rfl) H
def Le:bC:=
 .seq (.seq (.an [ag 12 0,dA 13 12,l7 14 13,bE 15 14,rf 16 15])
 (.cond (.t 16)
 (.skip)
 (.exit 0)))
 (.block 1 (.seq (.seq (.draw [ag 17 0,dA 18 17,eb 19 18,bE 20 19,ag 21 0,dA 22 21,eF 23 22,bE 24 23,jF 25 24,uK 26 20 25] [])
 (.cond (.t 26)
 (.seq (.an [ag 27 0,dA 28 27,l7 29 28,⟨none,.st 1 (.t 29) (.c (.int .i64 252)),none,[29]⟩])
 (.exit 0))
 (.skip)))
 (.seq (.draw [ag 30 0,dA 31 30,eF 32 31,bE 33 32,ag 34 0,dA 35 34,eb 36 35,bE 37 36,Ah 38 33 37,ag 4 38] [])
 (.block 2 (.seq (.an [ag 51 4,⟨some 52,.bin (.int .eql) (.t 51) (.c (.int .u8 34)),none,[51]⟩,ag 50 52])
 (.cond (.t 50)
 (.seq (.an [ag 53 0,dA 54 53,eb 55 54,bE 56 55,eN 57 56,dA 58 53,eb 59 58,⟨none,.st 1 (.t 59) (.t 57),none,[59,57]⟩])
 (.seq (.seq (.an [ag 60 3,ea 61 60,⟨some 62,.bin (.int .gtr) (.t 61) (.c (.int .i64 4096)),none,[61]⟩])
 (.cond (.t 62)
 (.an [ag 63 0,dA 64 63,l7 65 64,⟨none,.st 1 (.t 65) (.c (.int .i64 255)),none,[65]⟩])
 (.skip)))
 (.seq (.an [ag 66 3,⟨some 67,.hT .str (.t 66),none,[66]⟩,⟨some 68,.build [(.int .i64 0),(.int .i64 0),(.int .i64 0),(.str [])] [(0,1,(.c (.int .i64 2))),(3,1,(.t 67))],none,[67]⟩,⟨none,.st 4 (.t 2) (.t 68),none,[2,68]⟩])
 (.ret))))
 (.seq (.an [ag 70 4,⟨some 71,.bin (.int .eql) (.t 70) (.c (.int .u8 92)),none,[70]⟩,ag 69 71])
 (.cond (.t 69)
 (.an [ag 72 3,ag 73 0,⟨some 74,.call 118 [(.t 73)],none,[73]⟩,⟨some 75,.hc 1 1 [(.int .u8 0)] [(0,1,(.t 74))],none,[74]⟩,j6 76 72 75,ag 3 76])
 (.seq (.an [ag 78 4,⟨some 79,.bin (.int .lss) (.t 78) (.c (.int .u8 32)),none,[78]⟩,ag 80 79,ho 81 4 80,⟨some 82,.bin (.int .eql) (.t 81) (.c (.int .u8 127)),(some (80,false)),[81,80]⟩,eV 83 80 82,ag 77 83])
 (.cond (.t 77)
 (.an [ag 84 0,dA 85 84,l7 86 85,⟨none,.st 1 (.t 86) (.c (.int .i64 252)),none,[86]⟩])
 (.seq (.an [ag 39 0,dA 40 39,eb 41 40,bE 42 41,eN 43 42,dA 44 39,eb 45 44,⟨none,.st 1 (.t 45) (.t 43),none,[45,43]⟩])
 (.an [ag 46 3,ag 47 4,⟨some 48,.hc 1 1 [(.int .u8 0)] [(0,1,(.t 47))],none,[47]⟩,j6 49 46 48,ag 3 49]))))))))))))
def EJ:bC:=
 .seq (.an [xj 2])
 (.seq (.an [ag 5 0,dA 6 5,eb 7 6,bE 8 7,eN 9 8,dA 10 5,eb 11 10,⟨none,.st 1 (.t 11) (.t 9),none,[11,9]⟩])
 (.seq (.an [fm 3])
 (.seq (.block 0 (.loop Le))
 (.seq (.an [D4 87,⟨none,.st 4 (.t 2) (.t 87),none,[2,87]⟩])
 (.ret)))))
theorem UW:b9 Tryz.prog Tryz.f107.ntmps (Tryz.f107.body.getD .skip)=EJ:=by kernel_rfl
theorem UX:cC Tryz.prog Tryz.f107.ntmps Tryz.f107.results.toList=[.j' 2 4]:=by kernel_rfl
theorem UU {args:List V} {h:af} {K:V→af→Prop} (ak:Nat.ble args.length 88=true) (H:b8 Tryz.prog EJ (aT.bh args) h fun e r ab=>e.ends∧∃ad,cv r ab [.j' 2 4]=some ad∧K (oneOf ad) ab):bB Tryz.prog 107 args h K:=
 cY follows cP Tryz.func107 (c:=Tryz.f107.body.getD .skip) (by kernel_rfl) (by kernel_rfl) (by kernel_rfl) ak UW UX (by kernel_rfl) H
def EK:bC:=
 .seq (.an [dq 2])
 (.seq (.an [ag 3 0,⟨some 4,.bin (.int .geq) (.t 3) (.c (.int .u8 97)),none,[3]⟩,ag 5 4,c0 6 0 5,⟨some 7,.bin (.int .leq) (.t 6) (.c (.int .u8 122)),(some (5,true)),[6,5]⟩,c8 8 5 7,ag 2 8])
 (.ret))
theorem UZ:b9 Tryz.prog Tryz.f108.ntmps (Tryz.f108.body.getD .skip)=EK:=by kernel_rfl
theorem U0:cC Tryz.prog Tryz.f108.ntmps Tryz.f108.results.toList=[.t 2]:=by kernel_rfl
theorem UY {args:List V} {h:af} {K:V→af→Prop} (ak:Nat.ble args.length 9=true) (H:b8 Tryz.prog EK (aT.bh args) h fun e r ab=>e.ends∧∃ad,cv r ab [.t 2]=some ad∧K (oneOf ad) ab):bB Tryz.prog 108 args h K:=
 cY follows cP Tryz.func108 (c:=Tryz.f108.body.getD .skip) (by kernel_rfl) (by kernel_rfl) (by kernel_rfl) ak UZ U0 (by kernel_rfl) H
def EL:bC:=
 .seq (.an [xj 4])
 (.seq (.an [ag 6 0,⟨some 7,.call 117 [(.t 6),(.c (.func 119 []))],none,[6]⟩,ag 5 7])
 (.seq (.block 0 (.seq (.an [ag 9 1,uL 10 9,ag 11 10,c0 12 5 11,⟨some 13,.bin (.str .eql) (.t 12) (.c (.str [95])),(some (11,true)),[12,11]⟩,c8 14 11 13,ag 8 14])
 (.cond (.t 8)
 (.seq (.an [ag 15 5,Ks 16 15,⟨none,.st 4 (.t 4) (.t 16),none,[4,16]⟩])
 (.ret))
 (.seq (.an [ag 18 1,uL 19 18,ag 20 19,c0 21 5 20,⟨some 22,.bin (.str .add) (.c (.str [32])) (.t 21),(some (20,true)),[21,20]⟩,⟨some 23,.bin (.str .add) (.t 22) (.c (.str [32])),(some (20,true)),[22,20]⟩,⟨some 24,.call 120 [(.c (.str [32,97,110,100,32,98,101,103,105,110,32,101,108,115,101,32,101,110,100,32,101,120,99,101,112,116,105,111,110,32,102,97,108,115,101,32,102,117,110,32,105,102,32,105,110,32,108,101,116,32,109,97,116,99,104,32,109,111,100,32,111,102,32,114,97,105,115,101,32,114,101,99,32,116,104,101,110,32,116,114,117,101,32,116,114,121,32,116,121,112,101,32,119,105,116,104,32])),(.t 23)],(some (20,true)),[23,20]⟩,c8 25 20 24,ag 17 25])
 (.cond (.t 17)
 (.seq (.an [ag 26 5,⟨some 27,.build [(.int .i64 0),(.int .i64 0),(.int .i64 0),(.str [])] [(0,1,(.c (.int .i64 6))),(3,1,(.t 26))],none,[26]⟩,⟨none,.st 4 (.t 4) (.t 27),none,[4,27]⟩])
 (.ret))
 (.seq (.an [ag 29 5,jF 30 29,⟨some 31,.bin (.int .gtr) (.t 30) (.c (.int .i64 64)),none,[30]⟩,ag 28 31])
 (.cond (.t 28)
 (.an [ag 32 0,dA 33 32,l7 34 33,⟨none,.st 1 (.t 34) (.c (.int .i64 255)),none,[34]⟩])
 (.skip))))))))
 (.seq (.an [ag 35 1,ag 36 5,⟨some 37,.build [(.int .i64 0),(.int .i64 0),(.int .i64 0),(.str [])] [(0,1,(.t 35)),(3,1,(.t 36))],none,[35,36]⟩,⟨none,.st 4 (.t 4) (.t 37),none,[4,37]⟩])
 (.ret))))
theorem U2:b9 Tryz.prog Tryz.f109.ntmps (Tryz.f109.body.getD .skip)=EL:=by kernel_rfl
theorem U3:cC Tryz.prog Tryz.f109.ntmps Tryz.f109.results.toList=[.j' 4 4]:=by kernel_rfl
theorem U1 {args:List V} {h:af} {K:V→af→Prop} (ak:Nat.ble args.length 38=true) (H:b8 Tryz.prog EL (aT.bh args) h fun e r ab=>e.ends∧∃ad,cv r ab [.j' 4 4]=some ad∧K (oneOf ad) ab):bB Tryz.prog 109 args h K:=
 cY follows cP Tryz.func109 (c:=Tryz.f109.body.getD .skip) (by kernel_rfl) (by kernel_rfl) (by kernel_rfl) ak U2 U3 (by kernel_rfl) H
def EM:bC:=
 .seq (.an [dq 2])
 (.seq (.an [ag 3 0,⟨some 4,.bin (.int .geq) (.t 3) (.c (.int .u8 65)),none,[3]⟩,ag 5 4,c0 6 0 5,⟨some 7,.bin (.int .leq) (.t 6) (.c (.int .u8 90)),(some (5,true)),[6,5]⟩,c8 8 5 7,ag 2 8])
 (.ret))
theorem U8:b9 Tryz.prog Tryz.f110.ntmps (Tryz.f110.body.getD .skip)=EM:=by kernel_rfl
theorem U9:cC Tryz.prog Tryz.f110.ntmps Tryz.f110.results.toList=[.t 2]:=by kernel_rfl
theorem U7 {args:List V} {h:af} {K:V→af→Prop} (ak:Nat.ble args.length 9=true) (H:b8 Tryz.prog EM (aT.bh args) h fun e r ab=>e.ends∧∃ad,cv r ab [.t 2]=some ad∧K (oneOf ad) ab):bB Tryz.prog 110 args h K:=
 cY follows cP Tryz.func110 (c:=Tryz.f110.body.getD .skip) (by kernel_rfl) (by kernel_rfl) (by kernel_rfl) ak U8 U9 (by kernel_rfl) H
def EN:bC:=
 .seq (.an [fm 0])
 (.seq (.an [⟨some 1,.hc 17 1 [(.str [])] [(0,1,(.c (.str [59,59]))),(1,1,(.c (.str [58,61]))),(2,1,(.c (.str [45,62]))),(3,1,(.c (.str [60,61]))),(4,1,(.c (.str [59]))),(5,1,(.c (.str [40]))),(6,1,(.c (.str [41]))),(7,1,(.c (.str [44]))),(8,1,(.c (.str [61]))),(9,1,(.c (.str [60]))),(10,1,(.c (.str [43]))),(11,1,(.c (.str [45]))),(12,1,(.c (.str [42]))),(13,1,(.c (.str [47]))),(14,1,(.c (.str [124]))),(15,1,(.c (.str [33]))),(16,1,(.c (.str [95])))],none,[]⟩,ag 0 1])
 (.ret))
theorem U_:b9 Tryz.prog Tryz.f111.ntmps (Tryz.f111.body.getD .skip)=EN:=by kernel_rfl
theorem Va:cC Tryz.prog Tryz.f111.ntmps Tryz.f111.results.toList=[.t 0]:=by kernel_rfl
theorem U' {args:List V} {h:af} {K:V→af→Prop} (ak:Nat.ble args.length 2=true) (H:b8 Tryz.prog EN (aT.bh args) h fun e r ab=>e.ends∧∃ad,cv r ab [.t 0]=some ad∧K (oneOf ad) ab):bB Tryz.prog 111 args h K:=
 cY follows cP Tryz.func111 (c:=Tryz.f111.body.getD .skip) (by kernel_rfl) (by kernel_rfl) (by kernel_rfl) ak U_ Va (by kernel_rfl) H
def EO:bC:=
 .seq (.an [dq 4])
 (.seq (.an [ag 5 0,jF 6 5,ag 7 1,jF 8 7,uK 9 6 8,ag 10 9,c0 11 0 10,c0 12 1 10,⟨some 13,.len .str (.t 12),(some (10,true)),[12,10]⟩,⟨some 14,.pC (.t 11) none (some (.t 13)) none,(some (10,true)),[11,13,10]⟩,c0 15 1 10,z7 16 14 15 10,c8 17 10 16,ag 4 17])
 (.ret))
theorem Vc:b9 Tryz.prog Tryz.f115.ntmps (Tryz.f115.body.getD .skip)=EO:=by kernel_rfl
theorem Vd:cC Tryz.prog Tryz.f115.ntmps Tryz.f115.results.toList=[.t 4]:=by kernel_rfl
theorem Vb {args:List V} {h:af} {K:V→af→Prop} (ak:Nat.ble args.length 18=true) (H:b8 Tryz.prog EO (aT.bh args) h fun e r ab=>e.ends∧∃ad,cv r ab [.t 4]=some ad∧K (oneOf ad) ab):bB Tryz.prog 115 args h K:=
 cY follows cP Tryz.func115 (c:=Tryz.f115.body.getD .skip) (by kernel_rfl) (by kernel_rfl) (by kernel_rfl) ak Vc Vd (by kernel_rfl) H
def Lg:bC:=
 .seq (.seq (.draw [ag 10 0,dA 11 10,eb 12 11,bE 13 12,ag 14 0,dA 15 14,eF 16 15,bE 17 16,jF 18 17,fg 19 13 18,ag 20 19,c0 21 1 20,c0 22 0 20,uM 23 22 20,xi 24 23 20,fx 25 24 20,c0 26 0 20,uM 27 26 20,oN 28 27 20,fx 29 28 20,⟨some 30,.k4 (.t 25) (.t 29),(some (20,true)),[25,29,20]⟩,⟨some 31,.ly (.t 21) [(.t 30)],(some (20,true)),[21,30,20]⟩,c8 32 20 31] [(3,[21]),(7,[21]),(15,[21]),(19,[21])])
 (.cond (.t 32)
 (.skip)
 (.exit 0)))
 (.block 1 (.an [ag 33 0,dA 34 33,eb 35 34,bE 36 35,eN 37 36,dA 38 33,eb 39 38,⟨none,.st 1 (.t 39) (.t 37),none,[39,37]⟩]))
def EP:bC:=
 .seq (.an [⟨some 4,.dz (.c (.str [])),none,[]⟩])
 (.seq (.an [ag 6 0,dA 7 6,eb 8 7,bE 9 8,ag 5 9])
 (.seq (.block 0 (.loop Lg))
 (.seq (.draw [ag 40 0,dA 41 40,eF 42 41,bE 43 42,ag 44 5,ag 45 0,dA 46 45,eb 47 46,bE 48 47,⟨some 49,.pC (.t 43) (some (.t 44)) (some (.t 48)) none,none,[43,44,48]⟩,ag 4 49] [])
 (.ret))))
theorem Vf:b9 Tryz.prog Tryz.f117.ntmps (Tryz.f117.body.getD .skip)=EP:=by kernel_rfl
theorem Vg:cC Tryz.prog Tryz.f117.ntmps Tryz.f117.results.toList=[.t 4]:=by kernel_rfl
theorem Ve {args:List V} {h:af} {K:V→af→Prop} (ak:Nat.ble args.length 50=true) (H:b8 Tryz.prog EP (aT.bh args) h fun e r ab=>e.ends∧∃ad,cv r ab [.t 4]=some ad∧K (oneOf ad) ab):bB Tryz.prog 117 args h K:=
 cY follows cP Tryz.func117 (c:=Tryz.f117.body.getD .skip) (by kernel_rfl) (by kernel_rfl) (by kernel_rfl) ak Vf Vg (by kernel_rfl) H
def ER:bC:=
 .seq (.an [⟨some 2,.dz (.c (.int .u8 0)),none,[]⟩])
 (.seq (.an [ag 7 0,dA 8 7,eb 9 8,bE 10 9,eN 11 10,dA 12 7,eb 13 12,⟨none,.st 1 (.t 13) (.t 11),none,[13,11]⟩])
 (.seq (.draw [ag 14 0,dA 15 14,eF 16 15,bE 17 16,ag 18 0,dA 19 18,eb 20 19,bE 21 20,D3 22 17 21,ag 3 22] [])
 (.seq (.seq (.an [ag 23 3,⟨some 24,.bin (.str .neq) (.t 23) (.c (.str [])),none,[23]⟩])
 (.cond (.t 24)
 (.seq (.an [ag 25 3,Ai 26 25,⟨some 27,.call 92 [(.c (.str [110,116,34,92])),(.t 26)],none,[26]⟩,ag 4 27])
 (.seq (.an [ag 28 4,Ad 29 28])
 (.cond (.t 29)
 (.seq (.an [ag 30 0,dA 31 30,eb 32 31,bE 33 32,eN 34 33,dA 35 30,eb 36 35,⟨none,.st 1 (.t 36) (.t 34),none,[36,34]⟩])
 (.seq (.an [ag 37 4,⟨some 38,.k4 (.c (.str [10,9,34,92])) (.t 37),none,[37]⟩,ag 2 38])
 (.ret)))
 (.skip))))
 (.skip)))
 (.seq (.seq (.an [ag 39 3,jF 40 39,⟨some 41,.bin (.int .geq) (.t 40) (.c (.int .i64 3)),none,[40]⟩,ag 42 41,c0 43 3 42,⟨some 44,.k4 (.t 43) (.c (.int .i64 0)),(some (42,true)),[43,42]⟩,⟨some 45,.call 105 [(.t 44)],(some (42,true)),[44,42]⟩,c8 46 42 45,ag 47 46,c0 48 3 47,⟨some 49,.k4 (.t 48) (.c (.int .i64 1)),(some (47,true)),[48,47]⟩,⟨some 50,.call 105 [(.t 49)],(some (47,true)),[49,47]⟩,c8 51 47 50,ag 52 51,c0 53 3 52,⟨some 54,.k4 (.t 53) (.c (.int .i64 2)),(some (52,true)),[53,52]⟩,⟨some 55,.call 105 [(.t 54)],(some (52,true)),[54,52]⟩,c8 56 52 55])
 (.cond (.t 56)
 (.seq (.an [ag 58 3,⟨some 59,.pC (.t 58) none (some (.c (.int .i64 3))) none,none,[58]⟩,⟨some 60,.call 123 [(.t 59)],none,[59]⟩,ag 57 60,ra 61 57,rb 62 57,ag 5 61,ag 6 62])
 (.seq (.an [ag 63 5,⟨some 64,.bin (.int .lss) (.t 63) (.c (.int .i64 256)),none,[63]⟩])
 (.cond (.t 64)
 (.seq (.an [ag 65 0,dA 66 65,eb 67 66,bE 68 67,⟨some 69,.bin (.int .add) (.t 68) (.c (.int .i64 3)),none,[68]⟩,dA 70 65,eb 71 70,⟨none,.st 1 (.t 71) (.t 69),none,[71,69]⟩])
 (.seq (.an [ag 72 5,⟨some 73,.hT (.int .u8) (.t 72),none,[72]⟩,ag 2 73])
 (.ret)))
 (.skip))))
 (.skip)))
 (.seq (.an [ag 74 0,dA 75 74,l7 76 75,⟨none,.st 1 (.t 76) (.c (.int .i64 252)),none,[76]⟩])
 (.seq (.an [⟨some 2,.dz (.c (.int .u8 0)),none,[]⟩])
 (.ret)))))))
theorem Vi:b9 Tryz.prog Tryz.f118.ntmps (Tryz.f118.body.getD .skip)=ER:=by kernel_rfl
theorem Vj:cC Tryz.prog Tryz.f118.ntmps Tryz.f118.results.toList=[.t 2]:=by kernel_rfl
theorem Vh {args:List V} {h:af} {K:V→af→Prop} (ak:Nat.ble args.length 77=true) (H:b8 Tryz.prog ER (aT.bh args) h fun e r ab=>e.ends∧∃ad,cv r ab [.t 2]=some ad∧K (oneOf ad) ab):bB Tryz.prog 118 args h K:=
 cY follows cP Tryz.func118 (c:=Tryz.f118.body.getD .skip) (by kernel_rfl) (by kernel_rfl) (by kernel_rfl) ak Vi Vj (by kernel_rfl) H
def c119:bC:=
 .seq (.an [dq 2])
 (.seq (.an [ag 3 0,⟨some 4,.call 105 [(.t 3)],none,[3]⟩,ag 5 4,ho 6 0 5,⟨some 7,.call 108 [(.t 6)],(some (5,false)),[6,5]⟩,eV 8 5 7,ag 9 8,ho 10 0 9,⟨some 11,.call 110 [(.t 10)],(some (9,false)),[10,9]⟩,eV 12 9 11,ag 13 12,ho 14 0 13,Aj 15 14 13,eV 16 13 15,ag 17 16,ho 18 0 17,⟨some 19,.bin (.int .eql) (.t 18) (.c (.int .u8 39)),(some (17,false)),[18,17]⟩,eV 20 17 19,ag 2 20])
 (.ret))
theorem Vl:b9 Tryz.prog Tryz.f119.ntmps (Tryz.f119.body.getD .skip)=c119:=by kernel_rfl
theorem Vm:cC Tryz.prog Tryz.f119.ntmps Tryz.f119.results.toList=[.t 2]:=by kernel_rfl
theorem Vk {args:List V} {h:af} {K:V→af→Prop} (ak:Nat.ble args.length 21=true) (H:b8 Tryz.prog c119 (aT.bh args) h fun e r ab=>e.ends∧∃ad,cv r ab [.t 2]=some ad∧K (oneOf ad) ab):bB Tryz.prog 119 args h K:=
 cY follows cP Tryz.func119 (c:=Tryz.f119.body.getD .skip) (by kernel_rfl) (by kernel_rfl) (by kernel_rfl) ak Vl Vm (by kernel_rfl) H
theorem mF {f:FuncId} {args:List V} {h:af} {v:V} (c:bB Tryz.prog f args h fun x ab=>x=v∧ab=h):eM Tryz.prog f args h v h:=by
 obtain ⟨x,ab,q,rfl,rfl⟩:=c
 exact q
def lA (c:Int):Bool:=decide (48≤c)&&decide (c≤57)
def gn (c:Int):Bool:=decide (97≤c)&&decide (c≤122)
def lF (c:Int):Bool:=decide (65≤c)&&decide (c≤90)
def rZ (c:Int):Bool:=lA c||gn c||lF c||decide (c=95)||decide (c=39)
def l4 (c a b:Int):Bool:=decide (a≤c)&&decide (c≤b)
theorem u6 (c:Int) (h:af):eM Tryz.prog 105 [.int .u8 c] h (.bool (lA c)) h:=by
 refine mF (UO rfl (cR ?_))
 unfold EH
 simp +contextual only [↓ah,ao,simprocAttr]
 rfl
theorem Dj (c:Int) (h:af):eM Tryz.prog 108 [.int .u8 c] h (.bool (gn c)) h:=by
 refine mF (UY rfl (cR ?_))
 unfold EK
 simp +contextual only [↓ah,ao,simprocAttr]
 rfl
theorem M7 (c:Int) (h:af):eM Tryz.prog 110 [.int .u8 c] h (.bool (lF c)) h:=by
 refine mF (U7 rfl (cR ?_))
 unfold EM
 simp +contextual only [↓ah,ao,simprocAttr]
 rfl
theorem w0 (c a b:Int) (h:af):eM Tryz.prog 78 [.int .u8 c,.int .u8 a,.int .u8 b] h (.bool (l4 c a b)) h:=by
 refine mF (Xz rfl (cR ?_))
 unfold Fx
 simp +contextual only [↓ah,ao,simprocAttr]
 rfl
theorem aaO (s p:List UInt8) (h:af):eM Tryz.prog 115 [.str s,.str p] h (.bool (p.isPrefixOf s)) h:=by
 refine mF (Vb rfl (cR ?_))
 unfold EO
 have bb:(0≤(p.length:Int))=True:=eq_true (by omega)
 by_cases ak:p.length≤s.length
 · have aa:((p.length:Int)≤(s.length:Int))=True:=eq_true (by omega)
   simp +contextual only [bb,aa,Int.toNat_natCast,↓ah,ao,simprocAttr]
   rw [Bool.eq_iff_iff,decide_eq_true_eq,List.isPrefixOf_iff_prefix,List.prefix_iff_eq_take]
   exact ⟨fun e=>e.symm,fun e=>e.symm⟩
 · have aa:((p.length:Int)≤(s.length:Int))=False:=eq_false (by omega)
   simp +contextual only [bb,aa,Int.toNat_natCast,↓ah,ao,simprocAttr]
   rw [eq_comm,←Bool.not_eq_true,List.isPrefixOf_iff_prefix]
   exact fun e=>ak e.length_le
theorem aaN (s p:List UInt8) (h:af):eM Tryz.prog 104 [.str s,.str p] h (.bool (p.isPrefixOf s)) h:=by
 refine mF (UL rfl (cR ?_))
 unfold EG
 simp +contextual only [↓ah,ao,simprocAttr]
 refine fj (aaO s p h) ?_
 simp +contextual only [↓ah,ao,simprocAttr]
theorem afi (c:Int) (h:af):eM Tryz.prog 119 [.int .u8 c] h (.bool (rZ c)) h:=by
 refine mF (Vk rfl (cR ?_))
 unfold c119
 simp +contextual only [↓ah,ao,simprocAttr]
 refine fj (u6 c h) ?_
 simp +contextual only [↓ah,ao,simprocAttr]
 refine Bq (.bool (gn c)) (fun aw=>by simp only [aw,↓ah,ao,simprocAttr];exact Dj _ _) ?_
 simp +contextual only [↓ah,ao,simprocAttr]
 refine Bq (.bool (lF c)) (fun aw=>by simp only [aw,↓ah,ao,simprocAttr];exact M7 _ _) ?_
 simp +contextual only [↓ah,ao,simprocAttr]
 rfl
theorem S0 (c:Int) (h:af):eM Tryz.prog 77 [.int .u8 c] h (.bool (l4 c 97 122||l4 c 65 90||l4 c 48 57||decide (c=95)||decide (c=39))) h:=by
 refine mF (Xw rfl (cR ?_))
 unfold Fw
 simp +contextual only [↓ah,ao,simprocAttr]
 refine fj (w0 c _ _ h) ?_
 simp +contextual only [↓ah,ao,simprocAttr]
 refine Bq (.bool (l4 c 65 90)) (fun aw=>by simp only [aw,↓ah,ao,simprocAttr];exact w0 _ _ _ _) ?_
 simp +contextual only [↓ah,ao,simprocAttr]
 refine Bq (.bool (l4 c 48 57)) (fun aw=>by simp only [aw,↓ah,ao,simprocAttr];exact w0 _ _ _ _) ?_
 simp +contextual only [↓ah,ao,simprocAttr]
theorem Gy (s p:List UInt8) (at':Int) (rest:List V) (b:aQ) (cp:Nat) (st:Bool) (h:af) (ai:h.get b=.bh (.str s::.int .i64 at'::rest) cp st) (bb:0≤at') (aa:at'≤s.length):
 eM Tryz.prog 93 [.ptr b 0,.str p] h (.bool (p.isPrefixOf (s.drop at'.toNat))) h:=by
 refine mF (XP rfl (cR ?_))
 unfold FB
 have f0:(0≤at')=True:=eq_true bb
 have f1:(at'≤(s.length:Int))=True:=eq_true aa
 simp +contextual only [ai,f0,f1,↓ah,ao,simprocAttr]
 refine fj (aaN _ p h) ?_
 simp +contextual only [ai,f0,f1,↓ah,ao,simprocAttr]
def hA:List UInt8→Int→Option Nat
 | [],_=>none
 | [_],_=>none
 | x::y::r,d=>if x=40∧y=42 then (hA r (d+1)).map (· +2) else if x=42∧y=41 then (if d-1=0 then some 2 else (hA r (d-1)).map (· +2)) else (hA (y::r) d).map (· +1)
theorem agb (r:List UInt8) (d:Int) (h:r≠[]):hA r d=if ([40,42]:List UInt8).isPrefixOf r=true then (hA (r.drop 2) (d+1)).map (· +2) else
 if ([42,41]:List UInt8).isPrefixOf r=true then (if d-1=0 then some 2 else (hA (r.drop 2) (d-1)).map (· +2)) else (hA (r.drop 1) d).map (· +1):=by
 match r,h with
 | [x],_=>simp [hA,List.isPrefixOf]
 | x::y::r,_=>
   have aB:(([40,42]:List UInt8).isPrefixOf (x::y::r)=true)=(x=40∧y=42):=by
    simp only [List.isPrefixOf,Bool.and_true,Bool.and_eq_true,beq_iff_eq]
    exact propext ⟨fun q=>⟨q.1.symm,q.2.symm⟩,fun q=>⟨q.1.symm,q.2.symm⟩⟩
   have aO:(([42,41]:List UInt8).isPrefixOf (x::y::r)=true)=(x=42∧y=41):=by
    simp only [List.isPrefixOf,Bool.and_true,Bool.and_eq_true,beq_iff_eq]
    exact propext ⟨fun q=>⟨q.1.symm,q.2.symm⟩,fun q=>⟨q.1.symm,q.2.symm⟩⟩
   rw [hA]
   simp only [aB,aO,List.drop_succ_cons,List.drop_zero]
theorem Qn {a b:UInt8} {r:List UInt8} (h:([a,b]:List UInt8).isPrefixOf r=true):2≤r.length:=by
 rw [List.isPrefixOf_iff_prefix] at h
 simpa using h.length_le
noncomputable def eD (s:List UInt8) (at' e:Int):b3:=.bh [.str s,.int .i64 at',.int .i64 e] 0 false
theorem agc (s:List UInt8) (a0:Nat) (cT:Int) (b:aQ) (h:af) (ai:h.get b=eD s a0 cT) (bb:a0≤s.length) (aR:s.length≤100000) (fW:Old h b):
 bB Tryz.prog 94 [.ptr b 0] h fun x ab=>x=.tuple []∧Mod (fun x=>x=b) h ab∧(match hA (s.drop a0) 0 with
  | some n=>ab.get b=eD s ((a0+n:Nat):Int) cT∧a0+n≤s.length
  | none=>ab.get b=eD s (s.length:Int) 253):=by
 refine XS rfl (cR ?_)
 unfold FC
 unfold eD at ai ⊢
 simp +contextual only [ai,↓ah,ao,simprocAttr]
 refine fD (fun r ab=>∃(a:Nat) (d:Int),a0≤a∧a≤s.length∧r 0=.ptr b 0∧r 2=.int .i64 d∧ab.get b=.bh [.str s,.int .i64 a,.int .i64 cT] 0 false∧Mod (fun x=>x=b) h ab∧-(a:Int)≤d∧d≤a∧
  hA (s.drop a0) 0=(hA (s.drop a) d).map (· + (a-a0))) (fun r ab=>s.length - ((hj (ab.get b) 1).getD .bad).toN) ?_ ?_
 · refine ⟨a0,0,Nat.le_refl _,bb,?_⟩
   simp only [↓ah,ao,simprocAttr]
   refine ⟨ai,Mod.refl _ _,by omega,by omega,?_⟩
   rw [Nat.sub_self]
   cases hA (s.drop a0) 0<;>rfl
 · rintro r ab ⟨a,d,pj,ck,bF,bT,aH,hm,d0,d1,bl⟩
   unfold LG
   by_cases fq:(s.length:Int)≤(a:Int)
   · have br:a=s.length:=by omega
     have aX:hA (s.drop a) d=none:=by
      rw [br,List.drop_length]
      rfl
     rw [aX] at bl
     simp +contextual only [bF,bT,aH,fq,↓ah,ao,simprocAttr]
     rw [bl]
     refine ⟨hm.set (fun _=>rfl) _,?_⟩
     simp only [br,Option.map_none,dG,if_true]
   · have dn:s.drop a≠[]:=by
      intro q
      rw [List.drop_eq_nil_iff] at q
      omega
     have ys:∀p,eM Tryz.prog 93 [.ptr b 0,.str p] ab (.bool (p.isPrefixOf (s.drop a))) ab:=fun p=>by
      have:=Gy s p (a:Int) [.int .i64 cT] b 0 false ab aH (by omega) (by omega)
      simpa using this
     have gU:=agb (s.drop a) d dn
     simp +contextual only [bF,bT,aH,fq,↓ah,ao,simprocAttr]
     refine fj (ys _) ?_
     cases hH:([40,42]:List UInt8).isPrefixOf (s.drop a) with
     | true=>
       have ae:=Qn hH
       rw [List.length_drop] at ae
       rw [hH,if_pos rfl] at gU
       have bU:IntKind.i64.wrap (d+1)=d+1:=wrap_i64 (by omega) (by omega)
       have bQ:IntKind.i64.wrap ((a:Int)+2)=((a+2:Nat):Int):=by rw [wrap_i64 (by omega) (by omega)];rfl
       simp +contextual only [bF,bT,aH,bU,bQ,↓ah,ao,simprocAttr]
       refine ⟨⟨a+2,d+1,by omega,by omega,rfl,rfl,hm.set (fun _=>rfl) _,by omega,by omega,?_⟩,by omega⟩
       rw [bl,gU,List.drop_drop,Option.map_map]
       congr 1
       funext q
       simp only [Function.comp]
       omega
     | false=>
       rw [hH,if_neg (by decide)] at gU
       simp +contextual only [bF,bT,aH,↓ah,ao,simprocAttr]
       refine fj (ys _) ?_
       cases hh:([42,41]:List UInt8).isPrefixOf (s.drop a) with
       | true=>
         have ae:=Qn hh
         rw [List.length_drop] at ae
         rw [hh,if_pos rfl] at gU
         have bU:IntKind.i64.wrap (d-1)=d-1:=wrap_i64 (by omega) (by omega)
         have bQ:IntKind.i64.wrap ((a:Int)+2)=((a+2:Nat):Int):=by rw [wrap_i64 (by omega) (by omega)];rfl
         by_cases aY:d-1=0
         · rw [if_pos aY] at gU
           obtain rfl:d=1:=by omega
           have az:IntKind.i64.wrap 0=0:=rfl
           simp +contextual only [bF,bT,aH,az,bQ,↓ah,ao,simprocAttr]
           rw [bl,gU]
           refine ⟨hm.set (fun _=>rfl) _,?_⟩
           simp only [Option.map_some,dG,if_true]
           refine ⟨?_,by omega⟩
           rw [show a0 + (2 + (a-a0))=a+2 from by omega]
         · rw [if_neg aY] at gU
           simp +contextual only [bF,bT,aH,bU,bQ,aY,↓ah,ao,simprocAttr]
           refine ⟨⟨a+2,d-1,by omega,by omega,rfl,rfl,hm.set (fun _=>rfl) _,by omega,by omega,?_⟩,by omega⟩
           rw [bl,gU,List.drop_drop,Option.map_map]
           congr 1
           funext q
           simp only [Function.comp]
           omega
       | false=>
         rw [hh,if_neg (by decide)] at gU
         have bQ:IntKind.i64.wrap ((a:Int)+1)=((a+1:Nat):Int):=by rw [wrap_i64 (by omega) (by omega)];rfl
         simp +contextual only [bF,bT,aH,bQ,↓ah,ao,simprocAttr]
         refine ⟨⟨a+1,d,by omega,by omega,rfl,rfl,hm.set (fun _=>rfl) _,by omega,by omega,?_⟩,by omega⟩
         rw [bl,gU,List.drop_drop,Option.map_map]
         congr 1
         funext q
         simp only [Function.comp]
         omega
theorem drop_cons {s:List UInt8} {a:Nat} (h:a<s.length):s.drop a=s[a]::s.drop (a+1):=List.drop_eq_getElem_cons h
theorem RI (p:UInt8→Bool):∀l:List UInt8,(l.takeWhile p).length≤l.length
 | []=>by simp
 | x::l=>by
   simp only [List.takeWhile_cons]
   split
   · simpa using RI p l
   · simp
theorem Q4 (s:List UInt8) (a0:Nat) (cT:Int) (b:aQ) (g:FuncId) (p:Int→Bool) (h:af) (ai:h.get b=eD s a0 cT) (bb:a0≤s.length) (aR:s.length≤100000) (a1:(g=4294967296)=False)
 (aj:∀c h,eM Tryz.prog g [.int .u8 c] h (.bool (p c)) h):
 bB Tryz.prog 117 [.ptr b 0,.func g []] h fun x ab=>x=.str ((s.drop a0).takeWhile fun c=>p c.toNat)∧Mod (fun x=>x=b) h ab∧ab.get b=eD s ((a0 + ((s.drop a0).takeWhile fun c=>p c.toNat).length:Nat):Int) cT:=by
 refine Ve rfl (cR ?_)
 unfold EP
 unfold eD at ai ⊢
 simp +contextual only [ai,↓ah,ao,simprocAttr]
 refine fD (fun r ab=>∃(a:Nat),a0≤a∧a≤s.length∧r 0=.ptr b 0∧r 1=.func g []∧r 5=.int .i64 a0∧ab.get b=.bh [.str s,.int .i64 a,.int .i64 cT] 0 false∧Mod (fun x=>x=b) h ab∧
  ((s.drop a0).takeWhile fun c=>p c.toNat)=(s.drop a0).take (a-a0)++((s.drop a).takeWhile fun c=>p c.toNat)) (fun r ab=>s.length - ((hj (ab.get b) 1).getD .bad).toN) ?_ ?_
 · refine ⟨a0,Nat.le_refl _,bb,?_⟩
   simp only [↓ah,ao,simprocAttr]
   refine ⟨ai,Mod.refl _ _,?_⟩
   rw [Nat.sub_self]
   rfl
 · rintro r ab ⟨a,pj,ck,bF,bp,cu,aH,hm,bl⟩
   unfold Lg
   have fin:((s.drop a).takeWhile fun c=>p c.toNat)=[]→V.str (((s.drop a0).take (a-a0)))=V.str ((s.drop a0).takeWhile fun c=>p c.toNat)∧Mod (fun x=>x=b) h ab∧b3.bh [V.str s,V.int .i64 a,V.int .i64 cT] 0 false=b3.bh [V.str s,V.int .i64 ((a0 + ((s.drop a0).takeWhile fun c=>p c.toNat).length:Nat):Int),V.int .i64 cT] 0 false:=by
    intro q
    rw [q,List.append_nil] at bl
    rw [bl,List.length_take,List.length_drop]
    refine ⟨rfl,hm,?_⟩
    rw [show a0+min (a-a0) (s.length-a0)=a from by omega]
   have f0:(0≤(a0:Int))=True:=eq_true (by omega)
   have f1:((a0:Int)≤(a:Int))=True:=eq_true (by omega)
   have f2:((a:Int)≤(s.length:Int))=True:=eq_true (by omega)
   have f3:(0≤(a:Int))=True:=eq_true (by omega)
   by_cases fq:(a:Int) < (s.length:Int)
   · have aN:a<s.length:=by omega
     rw [drop_cons aN,List.takeWhile_cons] at bl fin
     simp +contextual only [a1,if_false,bF,bp,cu,aH,fq,f0,f1,f2,f3,List.getElem?_eq_getElem aN,Int.toNat_natCast,↓ah,ao,simprocAttr]
     refine fj (aj _ _) ?_
     cases ob:p ((s[a]).toNat:Int) with
     | true=>
       rw [ob] at bl
       have bQ:IntKind.i64.wrap ((a:Int)+1)=((a+1:Nat):Int):=by rw [wrap_i64 (by omega) (by omega)];rfl
       simp +contextual only [ob,bF,bp,cu,aH,fq,f0,f1,f2,f3,bQ,List.getElem?_eq_getElem aN,Int.toNat_natCast,↓ah,ao,simprocAttr]
       refine ⟨⟨a+1,by omega,by omega,rfl,hm.set (fun _=>rfl) _,?_⟩,by omega⟩
       rw [bl,if_pos rfl]
       have vI:a-a0 < (s.drop a0).length:=by rw [List.length_drop];omega
       rw [show a+1-a0=a-a0+1 from by omega,←List.take_append_getElem vI,List.append_assoc]
       congr 1
       rw [List.getElem_drop]
       simp only [show a0 + (a-a0)=a from by omega]
       rfl
     | false=>
       rw [ob] at fin
       simp +contextual only [ob,bF,bp,cu,aH,fq,f0,f1,f2,f3,List.getElem?_eq_getElem aN,Int.toNat_natCast,↓ah,ao,simprocAttr]
       exact fin rfl
   · have br:a=s.length:=by omega
     simp +contextual only [a1,if_false,bF,bp,cu,aH,fq,f0,f1,f2,f3,Int.toNat_natCast,↓ah,ao,simprocAttr]
     refine fin ?_
     rw [br,List.drop_length]
     rfl
end Go.Proofs.YtkehcalakofigaaGreatDoor
