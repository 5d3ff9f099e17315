/- The chapter's functions, walked by the abstract machine: plain lemmas, no condition. Printed by a program from longer texts: names made short. -/
import Derived.Test.YtjbiefneffiogaaGreatM3
set_option linter.unusedSectionVars false
set_option linter.unusedSimpArgs false
set_option linter.unusedVariables false
namespace Go.Proofs.YtjbiefneffiogaaGreat
structure At where
 k:Int
 n:Int
 s:List UInt8
 deriving DecidableEq
inductive aY where
 | mk (k x n:Int) (s:List UInt8) (a:List At) (t:List Int) (l:List aY)
namespace aY
def k:aY→Int | mk k _ _ _ _ _ _=>k
def x:aY→Int | mk _ x _ _ _ _ _=>x
def n:aY→Int | mk _ _ n _ _ _ _=>n
def s:aY→List UInt8 | mk _ _ _ s _ _ _=>s
def a:aY→List At | mk _ _ _ _ a _ _=>a
def t:aY→List Int | mk _ _ _ _ _ t _=>t
def l:aY→List aY | mk _ _ _ _ _ _ l=>l
end aY
mutual
def size:aY→Nat
 | .mk _ _ _ _ _ _ l=>1+na l
def na:List aY→Nat
 | []=>0
 | c::cs=>size c+na cs
end
theorem size_pos (c:aY):1≤size c:=by cases c;simp only [size];omega
theorem DW:∀{l:List aY} {c:aY},c ∈ l→size c≤na l
 | [],_,h=>by cases h
 | d::l,c,h=>by
   simp only [na]
   rcases List.mem_cons.1 h with rfl | h
   · omega
   · have:=DW h;omega
def gC (n:Int):Bool:=decide (0≤n)&&decide (n≤1048575)
def o' (n:Int):Bool:=decide (-1073741824≤n)&&decide (n≤1073741823)
def gS (a:At):Bool:=
 if a.k=1 then gC a.n&&decide (a.s=[]) else if a.k=2 then o' a.n&&decide (a.s=[]) else if a.k=3 then decide (a.n=0)&&decide (a.s.length≤4096) else false
def td:List (List UInt8):=[[97,100,100],[115,117,98],[109,117,108],[100,105,118],[109,111,100],[101,113],[108,116],[108,101],[98,121,116,101],[106,111,105,110],[115,101,116]]
def qW:List (List UInt8):=[[110,101,103],[103,101,116,99],[112,117,116,99],[112,117,116,115],[115,105,122,101],[99,104,114]]
def eO (s:List UInt8):Int:=if s ∈ td then 2 else if s ∈ qW then 1 else if s=[99,117,116] then 3 else 0
def diff:List Int→Bool
 | []=>true
 | a::l=>!l.contains a&&diff l
def kS (hz:Bool) (l:List Int):Bool:=l.all (fun n=>if hz then o' n else gC n)&&diff l
structure jQ where
 x:Bool
 n:Bool
 s:Bool
 tags:Bool
 a0:Int
 bw:Int
 a8:Int
 bf:Int
 deriving DecidableEq
def jQ.none:jQ:=⟨false,false,false,false,0,0,0,0⟩
def fj (k:Int):Option jQ:=
 if k=1 then some ⟨false,false,false,false,1,1,0,0⟩
 else if k=2 then some ⟨true,false,false,false,0,0,2,2⟩
 else if k=3 then some ⟨false,false,true,false,1,3,0,0⟩
 else if k=4 then some ⟨false,true,false,false,0,1024,0,0⟩
 else if k=5 then some ⟨false,true,false,false,1,1,0,0⟩
 else if k=6 then some ⟨false,false,false,false,2,2,0,0⟩
 else if k=7 then some ⟨true,false,false,false,0,0,1,1⟩
 else if k=9 then some ⟨false,false,false,true,1,1,1,1073741824⟩
 else if k=10 then some ⟨false,false,false,true,1,1,1,1073741824⟩
 else if k=11 then some ⟨true,false,false,false,0,0,2,2⟩
 else if k=12 then some ⟨false,false,false,false,1,1,0,0⟩
 else none
def sc (n a b:Int):Bool:=decide (a≤n)&&decide (n≤b)
def r8 (c:aY):Bool:=kS (decide (c.k=10)) c.t&&(decide ((c.l.length:Int)=c.t.length)||decide ((c.l.length:Int)=c.t.length+1))
def c7 (named:Bool) (c:aY):Bool:=
 match fj c.k with
 | none=>false
 | some r=>
   gC c.x&&(r.x||decide (c.x=0))&&(r.n||named||decide (c.n=0))&&(r.s||decide (c.s=[]))&&(r.tags||decide (c.t=[]))&&
   (sc c.a.length r.a0 r.bw&&sc c.l.length r.a8 r.bf&&gC c.n)&&
   (!(decide (c.k=5)&&decide (1024≤c.n))&&!(decide (c.k=3)&&!decide (eO c.s=c.a.length))&&(!r.tags||r8 c))&&c.a.all gS
def hasB (c:aY) (x n s t:Bool):Bool:=(x||decide (c.x=0))&&(n||decide (c.n=0))&&(s||decide (c.s=[]))&&(t||decide (c.t=[]))
def ih (l:List At) (n:Int):Bool:=l.all gS&&decide ((l.length:Int)=n)
def tY (c:aY):Bool:=decide (1≤(c.l.length:Int))&&(decide ((c.l.length:Int)=c.t.length)||decide ((c.l.length:Int)=c.t.length+1))
def eT (c:aY):Bool:=
 if c.k=1∨c.k=12 then hasB c false false false false&&ih c.a 1&&decide (c.l.length=0)
 else if c.k=2∨c.k=11 then hasB c true false false false&&gC c.x&&decide (c.a.length=0)&&decide (c.l.length=2)
 else if c.k=3 then hasB c false false true false&&decide (0<eO c.s)&&ih c.a (eO c.s)&&decide (c.l.length=0)
 else if c.k=4 then hasB c false true false false&&gC c.n&&decide (c.a.length≤1024)&&ih c.a c.a.length&&decide (c.l.length=0)
 else if c.k=5 then hasB c false true false false&&decide (0≤c.n)&&decide (c.n<1024)&&ih c.a 1&&decide (c.l.length=0)
 else if c.k=6 then hasB c false false false false&&ih c.a 2&&decide (c.l.length=0)
 else if c.k=9∨c.k=10 then hasB c false false false true&&ih c.a 1&&kS (decide (c.k=10)) c.t&&tY c
 else false
def jF (c:aY) (own:Bool):Bool:=decide (c.k=7)&&hasB c true own false false&&gC c.x&&(!own||gC c.n)&&decide (c.a.length=0)&&decide (c.l.length=1)
def ej (named:Bool) (c:aY):Bool:=if named then jF c true else eT c||jF c false
theorem agx (s:List UInt8):0≤eO s∧eO s≤3:=by
 unfold eO
 split
 · omega
 · split
   · omega
   · split<;>omega
theorem JV {a b:Bool} (h:a=true↔b=true):a=b:=Bool.eq_iff_iff.2 h
theorem adR (c:aY) (aK:c.l.length≤1073741824) (an:c.k≠8):c7 false c=ej false c:=by
 obtain ⟨k,x,n,s,a,t,l⟩:=c
 simp only [aY.l,aY.k] at aK an
 have aJ:=agx s
 have v0:gC 0=true:=by decide
 have Zp:(gC n=true)↔(0≤n∧n≤1048575):=by simp [gC]
 apply JV
 simp only [c7,ej,eT,jF,aY.k,aY.x,aY.n,aY.s,aY.a,aY.t,aY.l,hasB,ih,sc,tY,r8]
 by_cases ae:k=1
 · subst ae
   simp only [fj,if_pos,Bool.and_eq_true,Bool.or_eq_true,decide_eq_true_eq,Bool.not_eq_true',Bool.and_eq_false_iff,decide_eq_false_iff_not]
   grind
 by_cases ak:k=2
 · subst ak
   simp only [fj,if_pos,Bool.and_eq_true,Bool.or_eq_true,decide_eq_true_eq,Bool.not_eq_true',Bool.and_eq_false_iff,decide_eq_false_iff_not]
   grind
 by_cases aC:k=3
 · subst aC
   simp only [fj,if_pos,Bool.and_eq_true,Bool.or_eq_true,decide_eq_true_eq,Bool.not_eq_true',Bool.and_eq_false_iff,decide_eq_false_iff_not]
   grind
 by_cases bq:k=4
 · subst bq
   simp only [fj,if_pos,Bool.and_eq_true,Bool.or_eq_true,decide_eq_true_eq,Bool.not_eq_true',Bool.and_eq_false_iff,decide_eq_false_iff_not]
   grind
 by_cases dZ:k=5
 · subst dZ
   simp only [fj,if_pos,Bool.and_eq_true,Bool.or_eq_true,decide_eq_true_eq,Bool.not_eq_true',Bool.and_eq_false_iff,decide_eq_false_iff_not]
   grind
 by_cases eM:k=6
 · subst eM
   simp only [fj,if_pos,Bool.and_eq_true,Bool.or_eq_true,decide_eq_true_eq,Bool.not_eq_true',Bool.and_eq_false_iff,decide_eq_false_iff_not]
   grind
 by_cases c9:k=7
 · subst c9
   simp only [fj,if_pos,Bool.and_eq_true,Bool.or_eq_true,decide_eq_true_eq,Bool.not_eq_true',Bool.and_eq_false_iff,decide_eq_false_iff_not]
   grind
 by_cases jG:k=9
 · subst jG
   simp only [fj,if_pos,Bool.and_eq_true,Bool.or_eq_true,decide_eq_true_eq,Bool.not_eq_true',Bool.and_eq_false_iff,decide_eq_false_iff_not]
   grind
 by_cases j7:k=10
 · subst j7
   simp only [fj,if_pos,Bool.and_eq_true,Bool.or_eq_true,decide_eq_true_eq,Bool.not_eq_true',Bool.and_eq_false_iff,decide_eq_false_iff_not]
   grind
 by_cases jd:k=11
 · subst jd
   simp only [fj,if_pos,Bool.and_eq_true,Bool.or_eq_true,decide_eq_true_eq,Bool.not_eq_true',Bool.and_eq_false_iff,decide_eq_false_iff_not]
   grind
 by_cases mT:k=12
 · subst mT
   simp only [fj,if_pos,Bool.and_eq_true,Bool.or_eq_true,decide_eq_true_eq,Bool.not_eq_true',Bool.and_eq_false_iff,decide_eq_false_iff_not]
   grind
 simp only [fj,ae,ak,aC,bq,dZ,eM,c9,jG,j7,jd,mT,if_false,false_or,or_false,decide_false,Bool.false_and,Bool.or_false]
 simp
theorem Qb (c:aY):(decide (c.k=7)&&c7 true c)=ej true c:=by
 obtain ⟨k,x,n,s,a,t,l⟩:=c
 apply JV
 simp only [c7,ej,eT,jF,aY.k,aY.x,aY.n,aY.s,aY.a,aY.t,aY.l,hasB,ih,sc,tY,r8]
 by_cases c9:k=7
 · subst c9
   simp only [fj,if_pos,Bool.and_eq_true,Bool.or_eq_true,decide_eq_true_eq,Bool.not_eq_true',Bool.and_eq_false_iff,decide_eq_false_iff_not]
   grind
 · simp only [c9,decide_false,Bool.false_and,if_true]
def tL (c:aY):Bool:=decide (c.x=0)&&decide (c.n=0)&&decide (c.s=[])&&decide (c.t=[])&&decide (c.a=[])
mutual
def may (own:Bool→aY→Bool):aY→Bool
 | .mk k x n s a t l=>if k=8 then tL (.mk k x n s a t l)&&decide (2≤l.length)&&hN own l else own false (.mk k x n s a t l)&&iP own l
def iP (own:Bool→aY→Bool):List aY→Bool
 | []=>true
 | c::cs=>may own c&&iP own cs
def hN (own:Bool→aY→Bool):List aY→Bool
 | []=>true
 | c::cs=>match cs with
   | []=>may own c
   | _::_=>(decide (c.k=7)&&own true c)&&lJ own c&&hN own cs
def lJ (own:Bool→aY→Bool):aY→Bool
 | .mk _ _ _ _ _ _ l=>qR own l
def qR (own:Bool→aY→Bool):List aY→Bool
 | []=>false
 | c::_=>may own c
end
mutual
def Co (m:Nat):aY→Prop
 | .mk _ _ _ _ _ _ l=>l.length≤m∧xz m l
def xz (m:Nat):List aY→Prop
 | []=>True
 | c::cs=>Co m c∧xz m cs
end
theorem IU:∀l:List aY,l.length≤na l
 | []=>by simp [na]
 | c::l=>by have:=size_pos c;have:=IU l;simp only [na,List.length_cons];omega
mutual
theorem Dl:∀(c:aY),Co 1073741824 c→may c7 c=may (fun b c=>ej b c) c
 | .mk k x n s a t l,h=>by
   simp only [may]
   by_cases an:k=8
   · rw [if_pos an,if_pos an,Py l h.2]
   · rw [if_neg an,if_neg an,adR (.mk k x n s a t l) h.1 an,PC l h.2]
theorem PC:∀(l:List aY),xz 1073741824 l→iP c7 l=iP (fun b c=>ej b c) l
 | [],_=>rfl
 | c::cs,h=>by simp only [iP,Dl c h.1,PC cs h.2]
theorem Py:∀(l:List aY),xz 1073741824 l→hN c7 l=hN (fun b c=>ej b c) l
 | [],_=>rfl
 | [c],h=>by simp only [hN,Dl c h.1]
 | c::d::cs,h=>by
   have c9:(decide (c.k=7)&&c7 true c)=(decide (c.k=7)&&ej true c):=by
    rw [Qb c]
    by_cases q:c.k=7
    · rw [decide_eq_true q,Bool.true_and]
    · have:ej true c=false:=by simp [ej,jF,q]
      rw [this,Bool.and_false]
   have bd:hN c7 (d::cs)=hN (fun b c=>ej b c) (d::cs):=Py (d::cs) h.2
   simp only [hN] at bd ⊢
   rw [c9,acB c h.1,bd]
theorem acB:∀(c:aY),Co 1073741824 c→lJ c7 c=lJ (fun b c=>ej b c) c
 | .mk k x n s a t l,h=>by simp only [lJ,acy l h.2]
theorem acy:∀(l:List aY),xz 1073741824 l→qR c7 l=qR (fun b c=>ej b c) l
 | [],_=>rfl
 | c::cs,h=>by simp only [qR,Dl c h.1]
end
def ins (x:Int):List Int→List Int
 | []=>[x]
 | y::l=>if y<x then y::ins x l else if y=x then y::l else x::y::l
def rising (l:List Int):List Int:=l.foldl (fun o x=>ins x o) []
theorem H2 {x z:Int}:∀{l:List Int},z ∈ ins x l↔z=x∨z ∈ l
 | []=>by simp [ins]
 | y::l=>by
   simp only [ins]
   split
   · simp only [List.mem_cons,H2 (l:=l)];grind
   · split
     · simp only [List.mem_cons];grind
     · simp only [List.mem_cons]
theorem OZ {x:Int}:∀{l:List Int},l.Pairwise (· < ·)→(ins x l).Pairwise (· < ·)
 | [],_=>by simp [ins]
 | y::l,h=>by
   obtain ⟨ae,ak⟩:=List.pairwise_cons.1 h
   simp only [ins]
   split
   · refine List.pairwise_cons.2 ⟨fun z bI=>?_,OZ ak⟩
     rcases H2.1 bI with rfl | bI
     · assumption
     · exact ae z bI
   · split
     · exact h
     · refine List.pairwise_cons.2 ⟨fun z bI=>?_,h⟩
       rcases List.mem_cons.1 bI with rfl | bI
       · omega
       · have:=ae z bI;omega
theorem F2:∀(l o:List Int),o.Pairwise (· < ·)→(l.foldl (fun o x=>ins x o) o).Pairwise (· < ·)∧∀z,z ∈ l.foldl (fun o x=>ins x o) o↔z ∈ o∨z ∈ l
 | [],o,h=>⟨h,fun z=>by simp⟩
 | x::l,o,h=>by
   obtain ⟨ae,ak⟩:=F2 l (ins x o) (OZ h)
   refine ⟨ae,fun z=>?_⟩
   rw [List.foldl_cons,ak z,H2,List.mem_cons]
   grind
theorem QS (l:List Int):(rising l).Pairwise (· < ·):=(F2 l [] List.Pairwise.nil).1
theorem H3 {l:List Int} {z:Int}:z ∈ rising l↔z ∈ l:=by simpa [rising] using (F2 l [] List.Pairwise.nil).2 z
theorem IY:∀{a b:List Int},a.Pairwise (· < ·)→b.Pairwise (· < ·)→(∀z,z ∈ a↔z ∈ b)→a=b
 | [],[],_,_,_=>rfl
 | [],y::b,_,_,h=>by have:=(h y).2 (by simp);simp at this
 | x::a,[],_,_,h=>by have:=(h x).1 (by simp);simp at this
 | x::a,y::b,bU,ah,h=>by
   obtain ⟨bw,b3⟩:=List.pairwise_cons.1 bU
   obtain ⟨b0,cG⟩:=List.pairwise_cons.1 ah
   have rL:x=y:=by
    have aQ:=(h x).1 (by simp)
    have aB:=(h y).2 (by simp)
    rcases List.mem_cons.1 aQ with e | aQ
    · exact e
    · rcases List.mem_cons.1 aB with e | aB
      · exact e.symm
      · have:=b0 x aQ;have:=bw y aB;omega
   subst rL
   congr 1
   refine IY b3 cG fun z=>?_
   have:=h z
   simp only [List.mem_cons] at this
   constructor
   · intro bI
     have aX:=bw z bI
     rcases this.1 (.inr bI) with e | q
     · omega
     · exact q
   · intro bI
     have aX:=b0 z bI
     rcases this.2 (.inr bI) with e | q
     · omega
     · exact q
def nS (x:Int):List Int→List Int
 | []=>[]
 | y::l=>if y=x then nS x l else y::nS y l
def tT:List Int→List Int
 | []=>[]
 | x::l=>x::nS x l
theorem FI:∀(l:List Int) (x:Int),(x::l).Pairwise (·≤·)→(x::nS x l).Pairwise (· < ·)∧∀z,z ∈ x::nS x l↔z ∈ x::l
 | [],x,_=>⟨by simp [nS],fun z=>by simp [nS]⟩
 | y::l,x,h=>by
   obtain ⟨ae,ak⟩:=List.pairwise_cons.1 h
   simp only [nS]
   by_cases e:y=x
   · rw [if_pos e]
     subst e
     obtain ⟨bF,bz⟩:=FI l y ak
     exact ⟨bF,fun z=>by rw [bz z];simp⟩
   · rw [if_neg e]
     obtain ⟨bF,bz⟩:=FI l y ak
     have rL:x<y:=by have:=ae y (by simp);omega
     refine ⟨List.pairwise_cons.2 ⟨fun z bI=>?_,bF⟩,fun z=>by rw [List.mem_cons,bz z,List.mem_cons (a:=z) (b:=x)]⟩
     rw [bz z] at bI
     rcases List.mem_cons.1 bI with rfl | bI
     · exact rL
     · have:=(List.pairwise_cons.1 ak).1 z bI;omega
theorem V0 {l m:List Int} (h:m.Pairwise (·≤·)) (aT:m.Perm l):tT m=rising l:=by
 cases m with
 | nil=>have:=aT.nil_eq;subst this;rfl
 | cons x m=>
   obtain ⟨ae,ak⟩:=FI m x h
   exact IY ae (QS l) fun z=>by rw [show z ∈ tT (x::m)↔z ∈ x::m from ak z,H3,aT.mem_iff]
theorem aga {l m aF:List Int} (h:m.Pairwise (·≤·)) (aT:m.Perm aF) (a7:aF.Nodup) (hm:∀z,z ∈ aF↔z ∈ l):m=rising l:=by
 have kL:m.Nodup:=aT.symm.nodup a7
 have aX:m.Pairwise (· < ·):=by
  have:=h.and kL
  exact this.imp fun q=>by omega
 exact IY aX (QS l) fun z=>by rw [aT.mem_iff,hm z,H3]
def dS (k:Int):Bool:=decide (k=2)||decide (k=11)
def ownNames (k x:Int) (l:List aY):List Int:=if k=7 then [x] else if k=8 then l.dropLast.map aY.n else []
mutual
def order:aY→List Int
 | .mk k x n s a t l=>ownNames k x l++jj (dS k) x l 0
def jj (late:Bool) (x:Int):List aY→Nat→List Int
 | [],_=>[]
 | c::cs,i=>(if late&&i == 1 then [x] else [])++order c++jj late x cs (i+1)
end
def iR (b:List Int) (a:List At):List Int:=(a.filter fun q=>decide (q.k=1)&&!b.contains q.n).map At.n
mutual
def free:aY→List Int→List Int
 | .mk k x n s a t l,b=>iR b a++jb (dS k) x l (b++ownNames k x l) 0
def jb (late:Bool) (x:Int):List aY→List Int→Nat→List Int
 | [],_,_=>[]
 | c::cs,b,i=>free c (if late&&i == 1 then b++[x] else b)++jb late x cs b (i+1)
end
mutual
def qT:aY→Prop
 | .mk k x n s a t l=>(k=8→1≤l.length)∧k≠14∧(dS k=true→l.length=2)∧rY l
def rY:List aY→Prop
 | []=>True
 | c::cs=>qT c∧rY cs
end
theorem adM {b:Bool} {c:aY} (h:ej b c=true):c.k≠14∧(dS c.k=true→c.l.length=2):=by
 obtain ⟨k,x,n,s,a,t,l⟩:=c
 cases b with
 | true=>
   simp only [ej,if_true,jF,Bool.and_eq_true] at h
   have c9:k=7:=of_decide_eq_true h.1.1.1.1.1
   subst c9
   exact ⟨by simp [aY.k],fun q=>by simp [dS,aY.k] at q⟩
 | false=>
   simp only [ej,jF,eT,aY.k,aY.l,dS] at h ⊢
   grind
mutual
theorem Dv:∀(c:aY),may (fun b c=>ej b c) c=true→qT c
 | .mk k x n s a t l,h=>by
   simp only [may] at h
   by_cases an:k=8
   · rw [if_pos an] at h
     simp only [Bool.and_eq_true,decide_eq_true_eq] at h
     refine ⟨fun _=>by omega,by omega,fun q=>by subst an;simp [dS] at q,PW l h.2⟩
   · rw [if_neg an] at h
     simp only [Bool.and_eq_true] at h
     obtain ⟨aQ,aB⟩:=adM h.1
     exact ⟨fun e=>absurd e an,aQ,aB,PV l h.2⟩
theorem PV:∀(l:List aY),iP (fun b c=>ej b c) l=true→rY l
 | [],_=>trivial
 | c::cs,h=>by
   simp only [iP,Bool.and_eq_true] at h
   exact ⟨Dv c h.1,PV cs h.2⟩
theorem PW:∀(l:List aY),hN (fun b c=>ej b c) l=true→rY l
 | [],_=>trivial
 | [c],h=>by
   simp only [hN] at h
   exact ⟨Dv c h,trivial⟩
 | c::d::cs,h=>by
   have aa:((decide (c.k=7)&&ej true c)&&lJ (fun b c=>ej b c) c&&hN (fun b c=>ej b c) (d::cs))=true:=by simpa only [hN] using h
   simp only [Bool.and_eq_true,decide_eq_true_eq] at aa
   exact ⟨ade c aa.1.1.1 aa.1.1.2 aa.1.2,PW (d::cs) aa.2⟩
theorem ade:∀(c:aY),c.k=7→ej true c=true→lJ (fun b c=>ej b c) c=true→qT c
 | .mk k x n s a t l,c9,bD,h=>by
   simp only [aY.k] at c9
   subst c9
   simp only [ej,if_true,jF,Bool.and_eq_true] at bD
   have ae:l.length=1:=of_decide_eq_true bD.2
   exact ⟨fun e=>by omega,by decide,fun q=>by simp [dS] at q,adf l ae (by simpa only [lJ] using h)⟩
theorem adf:∀(l:List aY),l.length=1→qR (fun b c=>ej b c) l=true→rY l
 | [c],_,h=>⟨Dv c (by simpa only [qR] using h),trivial⟩
 | [],aK,_=>by simp at aK
 | _::_::_,aK,_=>by simp at aK
end
abbrev ix:=List (Int × Nat)
inductive eR where
 | int (n:Int)
 | text (s:List UInt8)
 | fn (x:Int) (c:aY) (e:ix)
 | dn (t:Int) (bg:List Nat)
structure j2 where
 jY:Bool
 x:Int
 c:aY
 e:ix
structure ax where
 c:aY
 e:ix
 w:List j2
 st:List eR
 out:List UInt8
 read:Nat
 fQ:Bool
 eZ:Int
 fg:Int
def mw:ix→Int→Nat
 | [],_=>0
 | (m,j)::L,n=>if m=n then j else mw L n
def wr (n:Int):Int:=(n+1073741824) % 2147483648-1073741824
namespace ax
def val (S:ax) (j:Nat):eR:=S.st.getD j (.int 0)
def gf (S:ax) (v:eR):ax:={S with st:=S.st++[v]}
def ends (S:ax) (pU:Int):ax:={S with fQ:=true,eZ:=pU}
def CB (S:ax) (a:j2) (w:List j2) (j:Nat):ax:={S with w:=w,c:=a.c,e:=(a.x,j)::a.e}
def r' (S:ax) (j:Nat):List j2→ax
 | []=>{S with w:=[]}.ends 0
 | a::w=>if a.jY then r' S j w else S.CB a w j
def nb (S:ax) (j:Nat):ax:=S.r' j S.w
def lo (S:ax) (j:Nat):List j2→ax
 | []=>match S.val j with
   | .dn t _=>{({S with w:=[]}.ends 1) with fg:=t}
   | _=>{S with w:=[]}.ends 6
 | a::w=>if a.jY then S.CB a w j else lo S j w
def p6 (S:ax) (j:Nat):ax:=S.lo j S.w
def dT (S:ax) (v:eR):ax:=(S.gf v).nb S.st.length
def nF (S:ax) (v:eR):ax:=(S.gf v).p6 S.st.length
def gp (S:ax):ax:=S.ends 6
def intOf:eR→Option Int
 | .int n=>some n
 | _=>none
def aiV:eR→Option (List UInt8)
 | .text s=>some s
 | _=>none
def nG (b:Bool):eR:=.dn (if b then 1 else 0) []
def gg (S:ax) (bx:List Nat) (k:Int→Int→ax):ax:=
 match S.val (bx.getD 0 0),S.val (bx.getD 1 0) with
 | .int a,.int b=>k a b
 | _,_=>S.gp
def jW (S:ax) (bx:List Nat) (k:Int→ax):ax:=
 match S.val (bx.getD 0 0) with
 | .int a=>k a
 | _=>S.gp
def mA (S:ax) (bx:List Nat) (k:List UInt8→ax):ax:=
 match S.val (bx.getD 0 0) with
 | .text a=>k a
 | _=>S.gp
def oN (S:ax) (bx:List Nat):ax:=
 match S.val (bx.getD 0 0),S.val (bx.getD 1 0) with
 | .text s,.int i=>if 0≤i∧i < (s.length:Int) then S.dT (.int (((s[i.toNat]?).getD 0).toNat:Int)) else S.nF (.dn 2 [])
 | _,_=>S.gp
def cut (S:ax) (bx:List Nat):ax:=
 match S.val (bx.getD 0 0),S.val (bx.getD 1 0),S.val (bx.getD 2 0) with
 | .text s,.int a,.int n=>if 0≤a∧0≤n∧a+n≤(s.length:Int) then S.dT (.text ((s.drop a.toNat).take n.toNat)) else S.nF (.dn 2 [])
 | _,_,_=>S.gp
def join (S:ax) (bx:List Nat):ax:=
 match S.val (bx.getD 0 0),S.val (bx.getD 1 0) with
 | .text s,.text t=>if s.length+t.length≤4096 then S.dT (.text (s++t)) else S.nF (.dn 2 [])
 | _,_=>S.gp
def pq (S:ax) (bx:List Nat):ax:=
 match S.val (bx.getD 0 0) with
 | .dn t bg=>if t=0∧bg.length=1 then {S with st:=S.st.set (bx.getD 0 0) (.dn 0 [bx.getD 1 0])}.dT (.dn 0 []) else S.gp
 | _=>S.gp
def t_ (S:ax) (aS:List UInt8):ax:=
 if aS.length≤S.read then S.dT (.int (-1)) else {S with read:=S.read+1}.dT (.int (((aS[S.read]?).getD 0).toNat:Int))
def byteOf (n:Int):UInt8:=UInt8.ofNat (n % 256).toNat
def oh (S:ax) (aS:List UInt8) (s:List UInt8) (bx:List Nat):ax:=
 if s=[97,100,100] then S.gg bx fun a b=>S.dT (.int (wr (a+b)))
 else if s=[115,117,98] then S.gg bx fun a b=>S.dT (.int (wr (a-b)))
 else if s=[109,117,108] then S.gg bx fun a b=>S.dT (.int (wr (a * b)))
 else if s=[101,113] then S.gg bx fun a b=>S.dT (nG (decide (a=b)))
 else if s=[108,116] then S.gg bx fun a b=>S.dT (nG (decide (a<b)))
 else if s=[108,101] then S.gg bx fun a b=>S.dT (nG (decide (a≤b)))
 else if s=[100,105,118] then S.gg bx fun a b=>if b=0 then S.nF (.dn 1 []) else S.dT (.int (wr (a.tdiv b)))
 else if s=[109,111,100] then S.gg bx fun a b=>if b=0 then S.nF (.dn 1 []) else S.dT (.int (wr (a.tmod b)))
 else if s=[110,101,103] then S.jW bx fun a=>S.dT (.int (wr (-a)))
 else if s=[103,101,116,99] then S.t_ aS
 else if s=[112,117,116,99] then S.jW bx fun a=>{S with out:=S.out++[byteOf a]}.dT (.dn 0 [])
 else if s=[112,117,116,115] then S.mA bx fun t=>{S with out:=S.out++t}.dT (.dn 0 [])
 else if s=[115,105,122,101] then S.mA bx fun t=>S.dT (.int t.length)
 else if s=[99,104,114] then S.jW bx fun a=>S.dT (.text [byteOf a])
 else if s=[98,121,116,101] then S.oN bx
 else if s=[99,117,116] then S.cut bx
 else if s=[106,111,105,110] then S.join bx
 else if s=[115,101,116] then S.pq bx
 else S
def ln:List Int→Int→Nat
 | [],_=>0
 | t::l,n=>if t=n then 0 else ln l n+1
def il (S:ax) (at_:Nat):ax:=
 match S.c.l[at_]? with
 | some d=>{S with c:=d}
 | none=>S.gp
def h6 (S:ax) (hz:Bool) (j:Nat):ax:=
 match S.val j with
 | .dn t _=>if hz then S.gp else S.il (ln S.c.t t)
 | .int n=>if hz then S.il (ln S.c.t n) else S.gp
 | _=>S.gp
def iI (T:ax) (f:aY):ax:={T.gf (.fn f.x (f.l.headD f) []) with e:=(f.n,T.st.length)::T.e}
def fF (S:ax) (l:List aY):ax:=l.foldl iI S
def h' (e:ix) (at_:Nat) (st:List eR):List aY→List eR
 | []=>st
 | f::l=>h' e (at_+1) (st.set at_ (.fn f.x (f.l.headD f) e)) l
def pj (S:ax):ax:=
 let T:=S.fF S.c.l.dropLast
 {T with st:=h' T.e S.st.length T.st S.c.l.dropLast,c:=S.c.l.getLastD S.c}
def call (S:ax) (f v:Nat):ax:=
 match S.val f with
 | .fn x c e=>{S with c:=c,e:=(x,v)::e}
 | _=>S.gp
def l_ (S:ax) (n:Int) (j:Nat):ax:=
 match S.val j with
 | .dn _ bg=>if (bg.length:Int)≤n then S.gp else S.nb (bg.getD n.toNat 0)
 | _=>S.gp
def atom (S:ax) (a:At):ax × Nat:=
 if a.k=1 then (S,mw S.e a.n) else if a.k=2 then (S.gf (.int a.n),S.st.length) else (S.gf (.text a.s),S.st.length)
def oK (p:ax × List Nat) (a:At):ax × List Nat:=((p.1.atom a).1,p.2++[(p.1.atom a).2])
def atoms (S:ax) (l:List At):ax × List Nat:=l.foldl oK (S,[])
def et (S:ax) (i:Nat):aY:=S.c.l.getD i S.c
def waits (S:ax):ax:={S with w:=⟨decide (S.c.k=11),S.c.x,S.et 1,S.e⟩::S.w,c:=S.et 0}
def dI (S:ax) (aS:List UInt8) (bx:List Nat):ax:=
 if S.c.k=1 then S.nb (bx.getD 0 0)
 else if S.c.k=2∨S.c.k=11 then S.waits
 else if S.c.k=3 then S.oh aS S.c.s bx
 else if S.c.k=4 then S.dT (.dn S.c.n bx)
 else if S.c.k=5 then S.l_ S.c.n (bx.getD 0 0)
 else if S.c.k=6 then S.call (bx.getD 0 0) (bx.getD 1 0)
 else if S.c.k=7 then S.dT (.fn S.c.x (S.et 0) S.e)
 else if S.c.k=8 then S.pj
 else if S.c.k=9 then S.h6 false (bx.getD 0 0)
 else if S.c.k=10 then S.h6 true (bx.getD 0 0)
 else if S.c.k=12 then S.p6 (bx.getD 0 0)
 else S
def step (S:ax) (aS:List UInt8):ax:=(S.atoms S.c.a).1.dI aS (S.atoms S.c.a).2
def nth (S:ax) (aS:List UInt8):Nat→ax
 | 0=>S
 | n+1=>(nth S aS n).step aS
end ax
def start (c:aY):ax:=⟨c,[],[],[],[],0,false,0,0⟩
structure tF where
 eZ:Int
 fg:Int
 read:Int
 steps:Int
 out:List UInt8
def yC (c:aY) (aS:List UInt8) (steps:Int) (l:tF):Prop:=
 ∃i:Nat,(∀j,j<i→((start c).nth aS j).fQ=false)∧((i:Int)≤steps)∧(((start c).nth aS i).fQ=true∨(i:Int)=steps)∧
  l=⟨if ((start c).nth aS i).fQ=true then ((start c).nth aS i).eZ else 4,((start c).nth aS i).fg,((start c).nth aS i).read,i,((start c).nth aS i).out⟩
theorem Wg {c:aY} {aS:List UInt8} {steps:Int} {l m:tF} (h:yC c aS steps l) (aa:yC c aS steps m):l=m:=by
 obtain ⟨i,bw,b3,a3,rfl⟩:=h
 obtain ⟨j,b0,cG,fa,rfl⟩:=aa
 have:i=j:=by
  rcases Nat.lt_trichotomy i j with q | q | q
  · have:=b0 i q
    rcases a3 with a3 | a3
    · rw [this] at a3;cases a3
    · omega
  · exact q
  · have:=bw j q
    rcases fa with fa | fa
    · rw [this] at fa;cases fa
    · omega
 subst this
 rfl
end Go.Proofs.YtjbiefneffiogaaGreat
