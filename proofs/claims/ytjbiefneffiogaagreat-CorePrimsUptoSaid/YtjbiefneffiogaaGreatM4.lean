/- The chapter's functions, walked by the abstract machine: plain lemmas, no condition. Printed by a program from longer texts: names made short. -/
import Derived.Test.YtjbiefneffiogaaGreatM3
set_option linter.unusedSectionVars false
set_option linter.unusedSimpArgs false
set_option linter.unusedVariables false
namespace Go.Proofs.YtjbiefneffiogaaGreat
structure At where
 k:Int
 n:Int
 s:List UInt8
 deriving DecidableEq
inductive aU where
 | mk (k x n:Int) (s:List UInt8) (a:List At) (t:List Int) (l:List aU)
namespace aU
def k:aU→Int | mk k _ _ _ _ _ _=>k
def x:aU→Int | mk _ x _ _ _ _ _=>x
def n:aU→Int | mk _ _ n _ _ _ _=>n
def s:aU→List UInt8 | mk _ _ _ s _ _ _=>s
def a:aU→List At | mk _ _ _ _ a _ _=>a
def t:aU→List Int | mk _ _ _ _ _ t _=>t
def l:aU→List aU | mk _ _ _ _ _ _ l=>l
end aU
mutual
def size:aU→Nat
 | .mk _ _ _ _ _ _ l=>1+pf l
def pf:List aU→Nat
 | []=>0
 | c::cs=>size c+pf cs
end
theorem size_pos (c:aU):1≤size c:=by cases c;simp only [size];omega
theorem IQ:∀{l:List aU} {c:aU},c ∈ l→size c≤pf l
 | [],_,h=>by cases h
 | d::l,c,h=>by
   simp only [pf]
   rcases List.mem_cons.1 h with rfl | h
   · omega
   · have:=IQ h;omega
def gl (n:Int):Bool:=decide (0≤n)&&decide (n≤1048575)
def o4 (n:Int):Bool:=decide (-1073741824≤n)&&decide (n≤1073741823)
def gE (a:At):Bool:=
 if a.k=1 then gl a.n&&decide (a.s=[]) else if a.k=2 then o4 a.n&&decide (a.s=[]) else if a.k=3 then decide (a.n=0)&&decide (a.s.length≤4096) else false
def tj:List (List UInt8):=[[97,100,100],[115,117,98],[109,117,108],[100,105,118],[109,111,100],[101,113],[108,116],[108,101],[98,121,116,101],[106,111,105,110],[115,101,116]]
def ti:List (List UInt8):=[[110,101,103],[103,101,116,99],[112,117,116,99],[112,117,116,115],[115,105,122,101],[99,104,114]]
def eK (s:List UInt8):Int:=if s ∈ tj then 2 else if s ∈ ti then 1 else if s=[99,117,116] then 3 else 0
def diff:List Int→Bool
 | []=>true
 | a::l=>!l.contains a&&diff l
def kS (hr:Bool) (l:List Int):Bool:=l.all (fun n=>if hr then o4 n else gl n)&&diff l
structure jG where
 x:Bool
 n:Bool
 s:Bool
 tags:Bool
 a0:Int
 bt:Int
 a8:Int
 bc:Int
 deriving DecidableEq
def jG.none:jG:=⟨false,false,false,false,0,0,0,0⟩
def fb (k:Int):Option jG:=
 if k=1 then some ⟨false,false,false,false,1,1,0,0⟩
 else if k=2 then some ⟨true,false,false,false,0,0,2,2⟩
 else if k=3 then some ⟨false,false,true,false,1,3,0,0⟩
 else if k=4 then some ⟨false,true,false,false,0,1024,0,0⟩
 else if k=5 then some ⟨false,true,false,false,1,1,0,0⟩
 else if k=6 then some ⟨false,false,false,false,2,2,0,0⟩
 else if k=7 then some ⟨true,false,false,false,0,0,1,1⟩
 else if k=9 then some ⟨false,false,false,true,1,1,1,1073741824⟩
 else if k=10 then some ⟨false,false,false,true,1,1,1,1073741824⟩
 else if k=11 then some ⟨true,false,false,false,0,0,2,2⟩
 else if k=12 then some ⟨false,false,false,false,1,1,0,0⟩
 else none
def sn (n a b:Int):Bool:=decide (a≤n)&&decide (n≤b)
def sg (c:aU):Bool:=kS (decide (c.k=10)) c.t&&(decide ((c.l.length:Int)=c.t.length)||decide ((c.l.length:Int)=c.t.length+1))
def c1 (named:Bool) (c:aU):Bool:=
 match fb c.k with
 | none=>false
 | some r=>
   gl c.x&&(r.x||decide (c.x=0))&&(r.n||named||decide (c.n=0))&&(r.s||decide (c.s=[]))&&(r.tags||decide (c.t=[]))&&
   (sn c.a.length r.a0 r.bt&&sn c.l.length r.a8 r.bc&&gl c.n)&&
   (!(decide (c.k=5)&&decide (1024≤c.n))&&!(decide (c.k=3)&&!decide (eK c.s=c.a.length))&&(!r.tags||sg c))&&c.a.all gE
def hasB (c:aU) (x n s t:Bool):Bool:=(x||decide (c.x=0))&&(n||decide (c.n=0))&&(s||decide (c.s=[]))&&(t||decide (c.t=[]))
def h8 (l:List At) (n:Int):Bool:=l.all gE&&decide ((l.length:Int)=n)
def ue (c:aU):Bool:=decide (1≤(c.l.length:Int))&&(decide ((c.l.length:Int)=c.t.length)||decide ((c.l.length:Int)=c.t.length+1))
def eM (c:aU):Bool:=
 if c.k=1∨c.k=12 then hasB c false false false false&&h8 c.a 1&&decide (c.l.length=0)
 else if c.k=2∨c.k=11 then hasB c true false false false&&gl c.x&&decide (c.a.length=0)&&decide (c.l.length=2)
 else if c.k=3 then hasB c false false true false&&decide (0<eK c.s)&&h8 c.a (eK c.s)&&decide (c.l.length=0)
 else if c.k=4 then hasB c false true false false&&gl c.n&&decide (c.a.length≤1024)&&h8 c.a c.a.length&&decide (c.l.length=0)
 else if c.k=5 then hasB c false true false false&&decide (0≤c.n)&&decide (c.n<1024)&&h8 c.a 1&&decide (c.l.length=0)
 else if c.k=6 then hasB c false false false false&&h8 c.a 2&&decide (c.l.length=0)
 else if c.k=9∨c.k=10 then hasB c false false false true&&h8 c.a 1&&kS (decide (c.k=10)) c.t&&ue c
 else false
def jw (c:aU) (own:Bool):Bool:=decide (c.k=7)&&hasB c true own false false&&gl c.x&&(!own||gl c.n)&&decide (c.a.length=0)&&decide (c.l.length=1)
def ea (named:Bool) (c:aU):Bool:=if named then jw c true else eM c||jw c false
theorem af7 (s:List UInt8):0≤eK s∧eK s≤3:=by
 unfold eK
 split
 · omega
 · split
   · omega
   · split<;>omega
theorem J8 {a b:Bool} (h:a=true↔b=true):a=b:=Bool.eq_iff_iff.2 h
theorem adn (c:aU) (aL:c.l.length≤1073741824) (al:c.k≠8):c1 false c=ea false c:=by
 obtain ⟨k,x,n,s,a,t,l⟩:=c
 simp only [aU.l,aU.k] at aL al
 have aF:=af7 s
 have v0:gl 0=true:=by decide
 have Y4:(gl n=true)↔(0≤n∧n≤1048575):=by simp [gl]
 apply J8
 simp only [c1,ea,eM,jw,aU.k,aU.x,aU.n,aU.s,aU.a,aU.t,aU.l,hasB,h8,sn,ue,sg]
 by_cases ad:k=1
 · subst ad
   simp only [fb,if_pos,Bool.and_eq_true,Bool.or_eq_true,decide_eq_true_eq,Bool.not_eq_true',Bool.and_eq_false_iff,decide_eq_false_iff_not]
   grind
 by_cases ak:k=2
 · subst ak
   simp only [fb,if_pos,Bool.and_eq_true,Bool.or_eq_true,decide_eq_true_eq,Bool.not_eq_true',Bool.and_eq_false_iff,decide_eq_false_iff_not]
   grind
 by_cases aB:k=3
 · subst aB
   simp only [fb,if_pos,Bool.and_eq_true,Bool.or_eq_true,decide_eq_true_eq,Bool.not_eq_true',Bool.and_eq_false_iff,decide_eq_false_iff_not]
   grind
 by_cases bw:k=4
 · subst bw
   simp only [fb,if_pos,Bool.and_eq_true,Bool.or_eq_true,decide_eq_true_eq,Bool.not_eq_true',Bool.and_eq_false_iff,decide_eq_false_iff_not]
   grind
 by_cases ej:k=5
 · subst ej
   simp only [fb,if_pos,Bool.and_eq_true,Bool.or_eq_true,decide_eq_true_eq,Bool.not_eq_true',Bool.and_eq_false_iff,decide_eq_false_iff_not]
   grind
 by_cases gA:k=6
 · subst gA
   simp only [fb,if_pos,Bool.and_eq_true,Bool.or_eq_true,decide_eq_true_eq,Bool.not_eq_true',Bool.and_eq_false_iff,decide_eq_false_iff_not]
   grind
 by_cases c6:k=7
 · subst c6
   simp only [fb,if_pos,Bool.and_eq_true,Bool.or_eq_true,decide_eq_true_eq,Bool.not_eq_true',Bool.and_eq_false_iff,decide_eq_false_iff_not]
   grind
 by_cases ia:k=9
 · subst ia
   simp only [fb,if_pos,Bool.and_eq_true,Bool.or_eq_true,decide_eq_true_eq,Bool.not_eq_true',Bool.and_eq_false_iff,decide_eq_false_iff_not]
   grind
 by_cases il:k=10
 · subst il
   simp only [fb,if_pos,Bool.and_eq_true,Bool.or_eq_true,decide_eq_true_eq,Bool.not_eq_true',Bool.and_eq_false_iff,decide_eq_false_iff_not]
   grind
 by_cases jg:k=11
 · subst jg
   simp only [fb,if_pos,Bool.and_eq_true,Bool.or_eq_true,decide_eq_true_eq,Bool.not_eq_true',Bool.and_eq_false_iff,decide_eq_false_iff_not]
   grind
 by_cases ni:k=12
 · subst ni
   simp only [fb,if_pos,Bool.and_eq_true,Bool.or_eq_true,decide_eq_true_eq,Bool.not_eq_true',Bool.and_eq_false_iff,decide_eq_false_iff_not]
   grind
 simp only [fb,ad,ak,aB,bw,ej,gA,c6,ia,il,jg,ni,if_false,false_or,or_false,decide_false,Bool.false_and,Bool.or_false]
 simp
theorem PY (c:aU):(decide (c.k=7)&&c1 true c)=ea true c:=by
 obtain ⟨k,x,n,s,a,t,l⟩:=c
 apply J8
 simp only [c1,ea,eM,jw,aU.k,aU.x,aU.n,aU.s,aU.a,aU.t,aU.l,hasB,h8,sn,ue,sg]
 by_cases c6:k=7
 · subst c6
   simp only [fb,if_pos,Bool.and_eq_true,Bool.or_eq_true,decide_eq_true_eq,Bool.not_eq_true',Bool.and_eq_false_iff,decide_eq_false_iff_not]
   grind
 · simp only [c6,decide_false,Bool.false_and,if_true]
def tV (c:aU):Bool:=decide (c.x=0)&&decide (c.n=0)&&decide (c.s=[])&&decide (c.t=[])&&decide (c.a=[])
mutual
def may (own:Bool→aU→Bool):aU→Bool
 | .mk k x n s a t l=>if k=8 then tV (.mk k x n s a t l)&&decide (2≤l.length)&&hK own l else own false (.mk k x n s a t l)&&iG own l
def iG (own:Bool→aU→Bool):List aU→Bool
 | []=>true
 | c::cs=>may own c&&iG own cs
def hK (own:Bool→aU→Bool):List aU→Bool
 | []=>true
 | c::cs=>match cs with
   | []=>may own c
   | _::_=>(decide (c.k=7)&&own true c)&&lJ own c&&hK own cs
def lJ (own:Bool→aU→Bool):aU→Bool
 | .mk _ _ _ _ _ _ l=>qY own l
def qY (own:Bool→aU→Bool):List aU→Bool
 | []=>false
 | c::_=>may own c
end
mutual
def CC (m:Nat):aU→Prop
 | .mk _ _ _ _ _ _ l=>l.length≤m∧xR m l
def xR (m:Nat):List aU→Prop
 | []=>True
 | c::cs=>CC m c∧xR m cs
end
theorem QS:∀l:List aU,l.length≤pf l
 | []=>by simp [pf]
 | c::l=>by have:=size_pos c;have:=QS l;simp only [pf,List.length_cons];omega
mutual
theorem DA:∀(c:aU),CC 1073741824 c→may c1 c=may (fun b c=>ea b c) c
 | .mk k x n s a t l,h=>by
   simp only [may]
   by_cases al:k=8
   · rw [if_pos al,if_pos al,Pl l h.2]
   · rw [if_neg al,if_neg al,adn (.mk k x n s a t l) h.1 al,Pq l h.2]
theorem Pq:∀(l:List aU),xR 1073741824 l→iG c1 l=iG (fun b c=>ea b c) l
 | [],_=>rfl
 | c::cs,h=>by simp only [iG,DA c h.1,Pq cs h.2]
theorem Pl:∀(l:List aU),xR 1073741824 l→hK c1 l=hK (fun b c=>ea b c) l
 | [],_=>rfl
 | [c],h=>by simp only [hK,DA c h.1]
 | c::d::cs,h=>by
   have c6:(decide (c.k=7)&&c1 true c)=(decide (c.k=7)&&ea true c):=by
    rw [PY c]
    by_cases q:c.k=7
    · rw [decide_eq_true q,Bool.true_and]
    · have:ea true c=false:=by simp [ea,jw,q]
      rw [this,Bool.and_false]
   have ba:hK c1 (d::cs)=hK (fun b c=>ea b c) (d::cs):=Pl (d::cs) h.2
   simp only [hK] at ba ⊢
   rw [c6,acd c h.1,ba]
theorem acd:∀(c:aU),CC 1073741824 c→lJ c1 c=lJ (fun b c=>ea b c) c
 | .mk k x n s a t l,h=>by simp only [lJ,ab_ l h.2]
theorem ab_:∀(l:List aU),xR 1073741824 l→qY c1 l=qY (fun b c=>ea b c) l
 | [],_=>rfl
 | c::cs,h=>by simp only [qY,DA c h.1]
end
def ins (x:Int):List Int→List Int
 | []=>[x]
 | y::l=>if y<x then y::ins x l else if y=x then y::l else x::y::l
def rising (l:List Int):List Int:=l.foldl (fun o x=>ins x o) []
theorem HV {x z:Int}:∀{l:List Int},z ∈ ins x l↔z=x∨z ∈ l
 | []=>by simp [ins]
 | y::l=>by
   simp only [ins]
   split
   · simp only [List.mem_cons,HV (l:=l)];grind
   · split
     · simp only [List.mem_cons];grind
     · simp only [List.mem_cons]
theorem OL {x:Int}:∀{l:List Int},l.Pairwise (· < ·)→(ins x l).Pairwise (· < ·)
 | [],_=>by simp [ins]
 | y::l,h=>by
   obtain ⟨ad,ak⟩:=List.pairwise_cons.1 h
   simp only [ins]
   split
   · refine List.pairwise_cons.2 ⟨fun z bD=>?_,OL ak⟩
     rcases HV.1 bD with rfl | bD
     · assumption
     · exact ad z bD
   · split
     · exact h
     · refine List.pairwise_cons.2 ⟨fun z bD=>?_,h⟩
       rcases List.mem_cons.1 bD with rfl | bD
       · omega
       · have:=ad z bD;omega
theorem F8:∀(l o:List Int),o.Pairwise (· < ·)→(l.foldl (fun o x=>ins x o) o).Pairwise (· < ·)∧∀z,z ∈ l.foldl (fun o x=>ins x o) o↔z ∈ o∨z ∈ l
 | [],o,h=>⟨h,fun z=>by simp⟩
 | x::l,o,h=>by
   obtain ⟨ad,ak⟩:=F8 l (ins x o) (OL h)
   refine ⟨ad,fun z=>?_⟩
   rw [List.foldl_cons,ak z,HV,List.mem_cons]
   grind
theorem QA (l:List Int):(rising l).Pairwise (· < ·):=(F8 l [] List.Pairwise.nil).1
theorem HW {l:List Int} {z:Int}:z ∈ rising l↔z ∈ l:=by simpa [rising] using (F8 l [] List.Pairwise.nil).2 z
theorem IW:∀{a b:List Int},a.Pairwise (· < ·)→b.Pairwise (· < ·)→(∀z,z ∈ a↔z ∈ b)→a=b
 | [],[],_,_,_=>rfl
 | [],y::b,_,_,h=>by have:=(h y).2 (by simp);simp at this
 | x::a,[],_,_,h=>by have:=(h x).1 (by simp);simp at this
 | x::a,y::b,bT,af,h=>by
   obtain ⟨bt,b1⟩:=List.pairwise_cons.1 bT
   obtain ⟨bX,cD⟩:=List.pairwise_cons.1 af
   have rS:x=y:=by
    have aP:=(h x).1 (by simp)
    have aA:=(h y).2 (by simp)
    rcases List.mem_cons.1 aP with e | aP
    · exact e
    · rcases List.mem_cons.1 aA with e | aA
      · exact e.symm
      · have:=bX x aP;have:=bt y aA;omega
   subst rS
   congr 1
   refine IW b1 cD fun z=>?_
   have:=h z
   simp only [List.mem_cons] at this
   constructor
   · intro bD
     have a7:=bt z bD
     rcases this.1 (.inr bD) with e | q
     · omega
     · exact q
   · intro bD
     have a7:=bX z bD
     rcases this.2 (.inr bD) with e | q
     · omega
     · exact q
def nL (x:Int):List Int→List Int
 | []=>[]
 | y::l=>if y=x then nL x l else y::nL y l
def t_:List Int→List Int
 | []=>[]
 | x::l=>x::nL x l
theorem FP:∀(l:List Int) (x:Int),(x::l).Pairwise (·≤·)→(x::nL x l).Pairwise (· < ·)∧∀z,z ∈ x::nL x l↔z ∈ x::l
 | [],x,_=>⟨by simp [nL],fun z=>by simp [nL]⟩
 | y::l,x,h=>by
   obtain ⟨ad,ak⟩:=List.pairwise_cons.1 h
   simp only [nL]
   by_cases e:y=x
   · rw [if_pos e]
     subst e
     obtain ⟨bH,bM⟩:=FP l y ak
     exact ⟨bH,fun z=>by rw [bM z];simp⟩
   · rw [if_neg e]
     obtain ⟨bH,bM⟩:=FP l y ak
     have rS:x<y:=by have:=ad y (by simp);omega
     refine ⟨List.pairwise_cons.2 ⟨fun z bD=>?_,bH⟩,fun z=>by rw [List.mem_cons,bM z,List.mem_cons (a:=z) (b:=x)]⟩
     rw [bM z] at bD
     rcases List.mem_cons.1 bD with rfl | bD
     · exact rS
     · have:=(List.pairwise_cons.1 ak).1 z bD;omega
theorem VD {l m:List Int} (h:m.Pairwise (·≤·)) (aQ:m.Perm l):t_ m=rising l:=by
 cases m with
 | nil=>have:=aQ.nil_eq;subst this;rfl
 | cons x m=>
   obtain ⟨ad,ak⟩:=FP m x h
   exact IW ad (QA l) fun z=>by rw [show z ∈ t_ (x::m)↔z ∈ x::m from ak z,HW,aQ.mem_iff]
theorem afL {l m aE:List Int} (h:m.Pairwise (·≤·)) (aQ:m.Perm aE) (a1:aE.Nodup) (hm:∀z,z ∈ aE↔z ∈ l):m=rising l:=by
 have kl:m.Nodup:=aQ.symm.nodup a1
 have a7:m.Pairwise (· < ·):=by
  have:=h.and kl
  exact this.imp fun q=>by omega
 exact IW a7 (QA l) fun z=>by rw [aQ.mem_iff,hm z,HW]
def dM (k:Int):Bool:=decide (k=2)||decide (k=11)
def ownNames (k x:Int) (l:List aU):List Int:=if k=7 then [x] else if k=8 then l.dropLast.map aU.n else []
mutual
def order:aU→List Int
 | .mk k x n s a t l=>ownNames k x l++iV (dM k) x l 0
def iV (late:Bool) (x:Int):List aU→Nat→List Int
 | [],_=>[]
 | c::cs,i=>(if late&&i == 1 then [x] else [])++order c++iV late x cs (i+1)
end
def iJ (b:List Int) (a:List At):List Int:=(a.filter fun q=>decide (q.k=1)&&!b.contains q.n).map At.n
mutual
def free:aU→List Int→List Int
 | .mk k x n s a t l,b=>iJ b a++iP (dM k) x l (b++ownNames k x l) 0
def iP (late:Bool) (x:Int):List aU→List Int→Nat→List Int
 | [],_,_=>[]
 | c::cs,b,i=>free c (if late&&i == 1 then b++[x] else b)++iP late x cs b (i+1)
end
mutual
def q1:aU→Prop
 | .mk k x n s a t l=>(k=8→1≤l.length)∧k≠14∧(dM k=true→l.length=2)∧r7 l
def r7:List aU→Prop
 | []=>True
 | c::cs=>q1 c∧r7 cs
end
theorem adj {b:Bool} {c:aU} (h:ea b c=true):c.k≠14∧(dM c.k=true→c.l.length=2):=by
 obtain ⟨k,x,n,s,a,t,l⟩:=c
 cases b with
 | true=>
   simp only [ea,if_true,jw,Bool.and_eq_true] at h
   have c6:k=7:=of_decide_eq_true h.1.1.1.1.1
   subst c6
   exact ⟨by simp [aU.k],fun q=>by simp [dM,aU.k] at q⟩
 | false=>
   simp only [ea,jw,eM,aU.k,aU.l,dM] at h ⊢
   grind
mutual
theorem DK:∀(c:aU),may (fun b c=>ea b c) c=true→q1 c
 | .mk k x n s a t l,h=>by
   simp only [may] at h
   by_cases al:k=8
   · rw [if_pos al] at h
     simp only [Bool.and_eq_true,decide_eq_true_eq] at h
     refine ⟨fun _=>by omega,by omega,fun q=>by subst al;simp [dM] at q,PI l h.2⟩
   · rw [if_neg al] at h
     simp only [Bool.and_eq_true] at h
     obtain ⟨aP,aA⟩:=adj h.1
     exact ⟨fun e=>absurd e al,aP,aA,PH l h.2⟩
theorem PH:∀(l:List aU),iG (fun b c=>ea b c) l=true→r7 l
 | [],_=>trivial
 | c::cs,h=>by
   simp only [iG,Bool.and_eq_true] at h
   exact ⟨DK c h.1,PH cs h.2⟩
theorem PI:∀(l:List aU),hK (fun b c=>ea b c) l=true→r7 l
 | [],_=>trivial
 | [c],h=>by
   simp only [hK] at h
   exact ⟨DK c h,trivial⟩
 | c::d::cs,h=>by
   have J:((decide (c.k=7)&&ea true c)&&lJ (fun b c=>ea b c) c&&hK (fun b c=>ea b c) (d::cs))=true:=by simpa only [hK] using h
   simp only [Bool.and_eq_true,decide_eq_true_eq] at J
   exact ⟨acN c J.1.1.1 J.1.1.2 J.1.2,PI (d::cs) J.2⟩
theorem acN:∀(c:aU),c.k=7→ea true c=true→lJ (fun b c=>ea b c) c=true→q1 c
 | .mk k x n s a t l,c6,bA,h=>by
   simp only [aU.k] at c6
   subst c6
   simp only [ea,if_true,jw,Bool.and_eq_true] at bA
   have ad:l.length=1:=of_decide_eq_true bA.2
   exact ⟨fun e=>by omega,by decide,fun q=>by simp [dM] at q,acO l ad (by simpa only [lJ] using h)⟩
theorem acO:∀(l:List aU),l.length=1→qY (fun b c=>ea b c) l=true→r7 l
 | [c],_,h=>⟨DK c (by simpa only [qY] using h),trivial⟩
 | [],aL,_=>by simp at aL
 | _::_::_,aL,_=>by simp at aL
end
abbrev ig:=List (Int × Nat)
inductive eF where
 | int (n:Int)
 | text (s:List UInt8)
 | fn (x:Int) (c:aU) (e:ig)
 | df (t:Int) (bg:List Nat)
structure jZ where
 jT:Bool
 x:Int
 c:aU
 e:ig
structure av where
 c:aU
 e:ig
 w:List jZ
 st:List eF
 out:List UInt8
 read:Nat
 fJ:Bool
 e6:Int
 fp:Int
def mn:ig→Int→Nat
 | [],_=>0
 | (m,j)::L,n=>if m=n then j else mn L n
def wr (n:Int):Int:=(n+1073741824) % 2147483648-1073741824
namespace av
def val (S:av) (j:Nat):eF:=S.st.getD j (.int 0)
def fW (S:av) (v:eF):av:={S with st:=S.st++[v]}
def ends (S:av) (qK:Int):av:={S with fJ:=true,e6:=qK}
def CR (S:av) (a:jZ) (w:List jZ) (j:Nat):av:={S with w:=w,c:=a.c,e:=(a.x,j)::a.e}
def si (S:av) (j:Nat):List jZ→av
 | []=>{S with w:=[]}.ends 0
 | a::w=>if a.jT then si S j w else S.CR a w j
def m1 (S:av) (j:Nat):av:=S.si j S.w
def ln (S:av) (j:Nat):List jZ→av
 | []=>match S.val j with
   | .df t _=>{({S with w:=[]}.ends 1) with fp:=t}
   | _=>{S with w:=[]}.ends 6
 | a::w=>if a.jT then S.CR a w j else ln S j w
def p7 (S:av) (j:Nat):av:=S.ln j S.w
def dN (S:av) (v:eF):av:=(S.fW v).m1 S.st.length
def nv (S:av) (v:eF):av:=(S.fW v).p7 S.st.length
def gb (S:av):av:=S.ends 6
def intOf:eF→Option Int
 | .int n=>some n
 | _=>none
def aiE:eF→Option (List UInt8)
 | .text s=>some s
 | _=>none
def ny (b:Bool):eF:=.df (if b then 1 else 0) []
def fX (S:av) (bu:List Nat) (k:Int→Int→av):av:=
 match S.val (bu.getD 0 0),S.val (bu.getD 1 0) with
 | .int a,.int b=>k a b
 | _,_=>S.gb
def jP (S:av) (bu:List Nat) (k:Int→av):av:=
 match S.val (bu.getD 0 0) with
 | .int a=>k a
 | _=>S.gb
def mu (S:av) (bu:List Nat) (k:List UInt8→av):av:=
 match S.val (bu.getD 0 0) with
 | .text a=>k a
 | _=>S.gb
def oK (S:av) (bu:List Nat):av:=
 match S.val (bu.getD 0 0),S.val (bu.getD 1 0) with
 | .text s,.int i=>if 0≤i∧i < (s.length:Int) then S.dN (.int (((s[i.toNat]?).getD 0).toNat:Int)) else S.nv (.df 2 [])
 | _,_=>S.gb
def cut (S:av) (bu:List Nat):av:=
 match S.val (bu.getD 0 0),S.val (bu.getD 1 0),S.val (bu.getD 2 0) with
 | .text s,.int a,.int n=>if 0≤a∧0≤n∧a+n≤(s.length:Int) then S.dN (.text ((s.drop a.toNat).take n.toNat)) else S.nv (.df 2 [])
 | _,_,_=>S.gb
def join (S:av) (bu:List Nat):av:=
 match S.val (bu.getD 0 0),S.val (bu.getD 1 0) with
 | .text s,.text t=>if s.length+t.length≤4096 then S.dN (.text (s++t)) else S.nv (.df 2 [])
 | _,_=>S.gb
def pe (S:av) (bu:List Nat):av:=
 match S.val (bu.getD 0 0) with
 | .df t bg=>if t=0∧bg.length=1 then {S with st:=S.st.set (bu.getD 0 0) (.df 0 [bu.getD 1 0])}.dN (.df 0 []) else S.gb
 | _=>S.gb
def uh (S:av) (aO:List UInt8):av:=
 if aO.length≤S.read then S.dN (.int (-1)) else {S with read:=S.read+1}.dN (.int (((aO[S.read]?).getD 0).toNat:Int))
def byteOf (n:Int):UInt8:=UInt8.ofNat (n % 256).toNat
def n_ (S:av) (aO:List UInt8) (s:List UInt8) (bu:List Nat):av:=
 if s=[97,100,100] then S.fX bu fun a b=>S.dN (.int (wr (a+b)))
 else if s=[115,117,98] then S.fX bu fun a b=>S.dN (.int (wr (a-b)))
 else if s=[109,117,108] then S.fX bu fun a b=>S.dN (.int (wr (a * b)))
 else if s=[101,113] then S.fX bu fun a b=>S.dN (ny (decide (a=b)))
 else if s=[108,116] then S.fX bu fun a b=>S.dN (ny (decide (a<b)))
 else if s=[108,101] then S.fX bu fun a b=>S.dN (ny (decide (a≤b)))
 else if s=[100,105,118] then S.fX bu fun a b=>if b=0 then S.nv (.df 1 []) else S.dN (.int (wr (a.tdiv b)))
 else if s=[109,111,100] then S.fX bu fun a b=>if b=0 then S.nv (.df 1 []) else S.dN (.int (wr (a.tmod b)))
 else if s=[110,101,103] then S.jP bu fun a=>S.dN (.int (wr (-a)))
 else if s=[103,101,116,99] then S.uh aO
 else if s=[112,117,116,99] then S.jP bu fun a=>{S with out:=S.out++[byteOf a]}.dN (.df 0 [])
 else if s=[112,117,116,115] then S.mu bu fun t=>{S with out:=S.out++t}.dN (.df 0 [])
 else if s=[115,105,122,101] then S.mu bu fun t=>S.dN (.int t.length)
 else if s=[99,104,114] then S.jP bu fun a=>S.dN (.text [byteOf a])
 else if s=[98,121,116,101] then S.oK bu
 else if s=[99,117,116] then S.cut bu
 else if s=[106,111,105,110] then S.join bu
 else if s=[115,101,116] then S.pe bu
 else S
def ll:List Int→Int→Nat
 | [],_=>0
 | t::l,n=>if t=n then 0 else ll l n+1
def h_ (S:av) (at_:Nat):av:=
 match S.c.l[at_]? with
 | some d=>{S with c:=d}
 | none=>S.gb
def hX (S:av) (hr:Bool) (j:Nat):av:=
 match S.val j with
 | .df t _=>if hr then S.gb else S.h_ (ll S.c.t t)
 | .int n=>if hr then S.h_ (ll S.c.t n) else S.gb
 | _=>S.gb
def ir (T:av) (f:aU):av:={T.fW (.fn f.x (f.l.headD f) []) with e:=(f.n,T.st.length)::T.e}
def fA (S:av) (l:List aU):av:=l.foldl ir S
def h1 (e:ig) (at_:Nat) (st:List eF):List aU→List eF
 | []=>st
 | f::l=>h1 e (at_+1) (st.set at_ (.fn f.x (f.l.headD f) e)) l
def pb (S:av):av:=
 let T:=S.fA S.c.l.dropLast
 {T with st:=h1 T.e S.st.length T.st S.c.l.dropLast,c:=S.c.l.getLastD S.c}
def call (S:av) (f v:Nat):av:=
 match S.val f with
 | .fn x c e=>{S with c:=c,e:=(x,v)::e}
 | _=>S.gb
def l6 (S:av) (n:Int) (j:Nat):av:=
 match S.val j with
 | .df _ bg=>if (bg.length:Int)≤n then S.gb else S.m1 (bg.getD n.toNat 0)
 | _=>S.gb
def atom (S:av) (a:At):av × Nat:=
 if a.k=1 then (S,mn S.e a.n) else if a.k=2 then (S.fW (.int a.n),S.st.length) else (S.fW (.text a.s),S.st.length)
def oI (p:av × List Nat) (a:At):av × List Nat:=((p.1.atom a).1,p.2++[(p.1.atom a).2])
def atoms (S:av) (l:List At):av × List Nat:=l.foldl oI (S,[])
def eg (S:av) (i:Nat):aU:=S.c.l.getD i S.c
def waits (S:av):av:={S with w:=⟨decide (S.c.k=11),S.c.x,S.eg 1,S.e⟩::S.w,c:=S.eg 0}
def dE (S:av) (aO:List UInt8) (bu:List Nat):av:=
 if S.c.k=1 then S.m1 (bu.getD 0 0)
 else if S.c.k=2∨S.c.k=11 then S.waits
 else if S.c.k=3 then S.n_ aO S.c.s bu
 else if S.c.k=4 then S.dN (.df S.c.n bu)
 else if S.c.k=5 then S.l6 S.c.n (bu.getD 0 0)
 else if S.c.k=6 then S.call (bu.getD 0 0) (bu.getD 1 0)
 else if S.c.k=7 then S.dN (.fn S.c.x (S.eg 0) S.e)
 else if S.c.k=8 then S.pb
 else if S.c.k=9 then S.hX false (bu.getD 0 0)
 else if S.c.k=10 then S.hX true (bu.getD 0 0)
 else if S.c.k=12 then S.p7 (bu.getD 0 0)
 else S
def step (S:av) (aO:List UInt8):av:=(S.atoms S.c.a).1.dE aO (S.atoms S.c.a).2
def nth (S:av) (aO:List UInt8):Nat→av
 | 0=>S
 | n+1=>(nth S aO n).step aO
end av
def start (c:aU):av:=⟨c,[],[],[],[],0,false,0,0⟩
structure rn where
 e6:Int
 fp:Int
 read:Int
 steps:Int
 out:List UInt8
def yV (c:aU) (aO:List UInt8) (steps:Int) (l:rn):Prop:=
 ∃i:Nat,(∀j,j<i→((start c).nth aO j).fJ=false)∧((i:Int)≤steps)∧(((start c).nth aO i).fJ=true∨(i:Int)=steps)∧
  l=⟨if ((start c).nth aO i).fJ=true then ((start c).nth aO i).e6 else 4,((start c).nth aO i).fp,((start c).nth aO i).read,i,((start c).nth aO i).out⟩
theorem VV {c:aU} {aO:List UInt8} {steps:Int} {l m:rn} (h:yV c aO steps l) (J:yV c aO steps m):l=m:=by
 obtain ⟨i,bt,b1,a3,rfl⟩:=h
 obtain ⟨j,bX,cD,e5,rfl⟩:=J
 have:i=j:=by
  rcases Nat.lt_trichotomy i j with q | q | q
  · have:=bX i q
    rcases a3 with a3 | a3
    · rw [this] at a3;cases a3
    · omega
  · exact q
  · have:=bt j q
    rcases e5 with e5 | e5
    · rw [this] at e5;cases e5
    · omega
 subst this
 rfl
end Go.Proofs.YtjbiefneffiogaaGreat
