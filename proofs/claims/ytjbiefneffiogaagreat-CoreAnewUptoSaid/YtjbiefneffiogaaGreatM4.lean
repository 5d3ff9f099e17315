/- The chapter's functions, walked by the abstract machine: plain lemmas, no condition. Printed by a program from longer texts: names made short. -/
import Derived.Test.YtjbiefneffiogaaGreatM3
set_option linter.unusedSectionVars false
set_option linter.unusedSimpArgs false
set_option linter.unusedVariables false
namespace Go.Proofs.YtjbiefneffiogaaGreat
structure At where
 k:Int
 n:Int
 s:List UInt8
 deriving DecidableEq
inductive aw where
 | mk (k x n:Int) (s:List UInt8) (a:List At) (t:List Int) (l:List aw)
namespace aw
def k:aw→Int | mk k _ _ _ _ _ _=>k
def x:aw→Int | mk _ x _ _ _ _ _=>x
def n:aw→Int | mk _ _ n _ _ _ _=>n
def s:aw→List UInt8 | mk _ _ _ s _ _ _=>s
def a:aw→List At | mk _ _ _ _ a _ _=>a
def t:aw→List Int | mk _ _ _ _ _ t _=>t
def l:aw→List aw | mk _ _ _ _ _ _ l=>l
end aw
mutual
def size:aw→Nat
 | .mk _ _ _ _ _ _ l=>1+ju l
def ju:List aw→Nat
 | []=>0
 | c::cs=>size c+ju cs
end
theorem size_pos (c:aw):1≤size c:=by cases c;simp only [size];omega
theorem v8:∀{l:List aw} {c:aw},c ∈ l→size c≤ju l
 | [],_,h=>by cases h
 | d::l,c,h=>by
   simp only [ju]
   rcases List.mem_cons.1 h with rfl | h
   · omega
   · have:=v8 h;omega
theorem ab' {c d:aw} (h:d ∈ c.l):size d<size c:=by
 cases c with
 | mk k x n s a t l=>have:=v8 h;simp only [size];simp only [aw.l] at this;omega
def eN (n:Int):Bool:=decide (0≤n)&&decide (n≤1048575)
def pV (n:Int):Bool:=decide (-1073741824≤n)&&decide (n≤1073741823)
def e5 (a:At):Bool:=
 if a.k=1 then eN a.n&&decide (a.s=[]) else if a.k=2 then pV a.n&&decide (a.s=[]) else if a.k=3 then decide (a.n=0)&&decide (a.s.length≤4096) else false
def vV:List (List UInt8):=[[97,100,100],[115,117,98],[109,117,108],[100,105,118],[109,111,100],[101,113],[108,116],[108,101],[98,121,116,101],[106,111,105,110],[115,101,116]]
def vU:List (List UInt8):=[[110,101,103],[103,101,116,99],[112,117,116,99],[112,117,116,115],[115,105,122,101],[99,104,114]]
def ib (s:List UInt8):Int:=if s ∈ vV then 2 else if s ∈ vU then 1 else if s=[99,117,116] then 3 else 0
def diff:List Int→Bool
 | []=>true
 | a::l=>!l.contains a&&diff l
def p_ (gW:Bool) (l:List Int):Bool:=l.all (fun n=>if gW then pV n else eN n)&&diff l
structure h2 where
 x:Bool
 n:Bool
 s:Bool
 tags:Bool
 a0:Int
 bB:Int
 b':Int
 bY:Int
 deriving DecidableEq
def h2.none:h2:=⟨false,false,false,false,0,0,0,0⟩
def d_ (k:Int):Option h2:=
 if k=1 then some ⟨false,false,false,false,1,1,0,0⟩
 else if k=2 then some ⟨true,false,false,false,0,0,2,2⟩
 else if k=3 then some ⟨false,false,true,false,1,3,0,0⟩
 else if k=4 then some ⟨false,true,false,false,0,1024,0,0⟩
 else if k=5 then some ⟨false,true,false,false,1,1,0,0⟩
 else if k=6 then some ⟨false,false,false,false,2,2,0,0⟩
 else if k=7 then some ⟨true,false,false,false,0,0,1,1⟩
 else if k=9 then some ⟨false,false,false,true,1,1,1,1073741824⟩
 else if k=10 then some ⟨false,false,false,true,1,1,1,1073741824⟩
 else if k=11 then some ⟨true,false,false,false,0,0,2,2⟩
 else if k=12 then some ⟨false,false,false,false,1,1,0,0⟩
 else none
def qe (n a b:Int):Bool:=decide (a≤n)&&decide (n≤b)
def p' (c:aw):Bool:=p_ (decide (c.k=10)) c.t&&(decide ((c.l.length:Int)=c.t.length)||decide ((c.l.length:Int)=c.t.length+1))
def cx (named:Bool) (c:aw):Bool:=
 match d_ c.k with
 | none=>false
 | some r=>
   eN c.x&&(r.x||decide (c.x=0))&&(r.n||named||decide (c.n=0))&&(r.s||decide (c.s=[]))&&(r.tags||decide (c.t=[]))&&
   (qe c.a.length r.a0 r.bB&&qe c.l.length r.b' r.bY&&eN c.n)&&
   (!(decide (c.k=5)&&decide (1024≤c.n))&&!(decide (c.k=3)&&!decide (ib c.s=c.a.length))&&(!r.tags||p' c))&&c.a.all e5
def hasB (c:aw) (x n s t:Bool):Bool:=(x||decide (c.x=0))&&(n||decide (c.n=0))&&(s||decide (c.s=[]))&&(t||decide (c.t=[]))
def ot (l:List At) (n:Int):Bool:=l.all e5&&decide ((l.length:Int)=n)
def u5 (c:aw):Bool:=decide (1≤(c.l.length:Int))&&(decide ((c.l.length:Int)=c.t.length)||decide ((c.l.length:Int)=c.t.length+1))
def sR (c:aw):Bool:=
 if c.k=1∨c.k=12 then hasB c false false false false&&ot c.a 1&&decide (c.l.length=0)
 else if c.k=2∨c.k=11 then hasB c true false false false&&eN c.x&&decide (c.a.length=0)&&decide (c.l.length=2)
 else if c.k=3 then hasB c false false true false&&decide (0<ib c.s)&&ot c.a (ib c.s)&&decide (c.l.length=0)
 else if c.k=4 then hasB c false true false false&&eN c.n&&decide (c.a.length≤1024)&&ot c.a c.a.length&&decide (c.l.length=0)
 else if c.k=5 then hasB c false true false false&&decide (0≤c.n)&&decide (c.n<1024)&&ot c.a 1&&decide (c.l.length=0)
 else if c.k=6 then hasB c false false false false&&ot c.a 2&&decide (c.l.length=0)
 else if c.k=9∨c.k=10 then hasB c false false false true&&ot c.a 1&&p_ (decide (c.k=10)) c.t&&u5 c
 else false
def lU (c:aw) (own:Bool):Bool:=decide (c.k=7)&&hasB c true own false false&&eN c.x&&(!own||eN c.n)&&decide (c.a.length=0)&&decide (c.l.length=1)
def d' (named:Bool) (c:aw):Bool:=if named then lU c true else sR c||lU c false
theorem acJ (s:List UInt8):0≤ib s∧ib s≤3:=by
 unfold ib
 split
 · omega
 · split
   · omega
   · split<;>omega
theorem G8 {a b:Bool} (h:a=true↔b=true):a=b:=Bool.eq_iff_iff.2 h
theorem aaC (c:aw) (aB:c.l.length≤1073741824) (al:c.k≠8):cx false c=d' false c:=by
 obtain ⟨k,x,n,s,a,t,l⟩:=c
 simp only [aw.l,aw.k] at aB al
 have aI:=acJ s
 have v0:eN 0=true:=by decide
 have Wd:(eN n=true)↔(0≤n∧n≤1048575):=by simp [eN]
 apply G8
 simp only [cx,d',sR,lU,aw.k,aw.x,aw.n,aw.s,aw.a,aw.t,aw.l,hasB,ot,qe,u5,p']
 by_cases ab:k=1
 · subst ab
   simp only [d_,if_pos,Bool.and_eq_true,Bool.or_eq_true,decide_eq_true_eq,Bool.not_eq_true',Bool.and_eq_false_iff,decide_eq_false_iff_not]
   grind
 by_cases af:k=2
 · subst af
   simp only [d_,if_pos,Bool.and_eq_true,Bool.or_eq_true,decide_eq_true_eq,Bool.not_eq_true',Bool.and_eq_false_iff,decide_eq_false_iff_not]
   grind
 by_cases aK:k=3
 · subst aK
   simp only [d_,if_pos,Bool.and_eq_true,Bool.or_eq_true,decide_eq_true_eq,Bool.not_eq_true',Bool.and_eq_false_iff,decide_eq_false_iff_not]
   grind
 by_cases bM:k=4
 · subst bM
   simp only [d_,if_pos,Bool.and_eq_true,Bool.or_eq_true,decide_eq_true_eq,Bool.not_eq_true',Bool.and_eq_false_iff,decide_eq_false_iff_not]
   grind
 by_cases e8:k=5
 · subst e8
   simp only [d_,if_pos,Bool.and_eq_true,Bool.or_eq_true,decide_eq_true_eq,Bool.not_eq_true',Bool.and_eq_false_iff,decide_eq_false_iff_not]
   grind
 by_cases fZ:k=6
 · subst fZ
   simp only [d_,if_pos,Bool.and_eq_true,Bool.or_eq_true,decide_eq_true_eq,Bool.not_eq_true',Bool.and_eq_false_iff,decide_eq_false_iff_not]
   grind
 by_cases cn:k=7
 · subst cn
   simp only [d_,if_pos,Bool.and_eq_true,Bool.or_eq_true,decide_eq_true_eq,Bool.not_eq_true',Bool.and_eq_false_iff,decide_eq_false_iff_not]
   grind
 by_cases nA:k=9
 · subst nA
   simp only [d_,if_pos,Bool.and_eq_true,Bool.or_eq_true,decide_eq_true_eq,Bool.not_eq_true',Bool.and_eq_false_iff,decide_eq_false_iff_not]
   grind
 by_cases oH:k=10
 · subst oH
   simp only [d_,if_pos,Bool.and_eq_true,Bool.or_eq_true,decide_eq_true_eq,Bool.not_eq_true',Bool.and_eq_false_iff,decide_eq_false_iff_not]
   grind
 by_cases nz:k=11
 · subst nz
   simp only [d_,if_pos,Bool.and_eq_true,Bool.or_eq_true,decide_eq_true_eq,Bool.not_eq_true',Bool.and_eq_false_iff,decide_eq_false_iff_not]
   grind
 by_cases s7:k=12
 · subst s7
   simp only [d_,if_pos,Bool.and_eq_true,Bool.or_eq_true,decide_eq_true_eq,Bool.not_eq_true',Bool.and_eq_false_iff,decide_eq_false_iff_not]
   grind
 simp only [d_,ab,af,aK,bM,e8,fZ,cn,nA,oH,nz,s7,if_false,false_or,or_false,decide_false,Bool.false_and,Bool.or_false]
 simp
theorem MJ (c:aw):(decide (c.k=7)&&cx true c)=d' true c:=by
 obtain ⟨k,x,n,s,a,t,l⟩:=c
 apply G8
 simp only [cx,d',sR,lU,aw.k,aw.x,aw.n,aw.s,aw.a,aw.t,aw.l,hasB,ot,qe,u5,p']
 by_cases cn:k=7
 · subst cn
   simp only [d_,if_pos,Bool.and_eq_true,Bool.or_eq_true,decide_eq_true_eq,Bool.not_eq_true',Bool.and_eq_false_iff,decide_eq_false_iff_not]
   grind
 · simp only [cn,decide_false,Bool.false_and,if_true]
def sU (c:aw):Bool:=decide (c.x=0)&&decide (c.n=0)&&decide (c.s=[])&&decide (c.t=[])&&decide (c.a=[])
mutual
def may (own:Bool→aw→Bool):aw→Bool
 | .mk k x n s a t l=>if k=8 then sU (.mk k x n s a t l)&&decide (2≤l.length)&&fy own l else own false (.mk k x n s a t l)&&h' own l
def h' (own:Bool→aw→Bool):List aw→Bool
 | []=>true
 | c::cs=>may own c&&h' own cs
def fy (own:Bool→aw→Bool):List aw→Bool
 | []=>true
 | c::cs=>match cs with
   | []=>may own c
   | _::_=>(decide (c.k=7)&&own true c)&&ir own c&&fy own cs
def ir (own:Bool→aw→Bool):aw→Bool
 | .mk _ _ _ _ _ _ l=>mX own l
def mX (own:Bool→aw→Bool):List aw→Bool
 | []=>false
 | c::_=>may own c
end
mutual
def zE (m:Nat):aw→Prop
 | .mk _ _ _ _ _ _ l=>l.length≤m∧u3 m l
def u3 (m:Nat):List aw→Prop
 | []=>True
 | c::cs=>zE m c∧u3 m cs
end
theorem FX:∀l:List aw,l.length≤ju l
 | []=>by simp [ju]
 | c::l=>by have:=size_pos c;have:=FX l;simp only [ju,List.length_cons];omega
mutual
theorem AH:∀(c:aw),zE 1073741824 c→may cx c=may (fun b c=>d' b c) c
 | .mk k x n s a t l,h=>by
   simp only [may]
   by_cases al:k=8
   · rw [if_pos al,if_pos al,L0 l h.2]
   · rw [if_neg al,if_neg al,aaC (.mk k x n s a t l) h.1 al,L3 l h.2]
theorem L3:∀(l:List aw),u3 1073741824 l→h' cx l=h' (fun b c=>d' b c) l
 | [],_=>rfl
 | c::cs,h=>by simp only [h',AH c h.1,L3 cs h.2]
theorem L0:∀(l:List aw),u3 1073741824 l→fy cx l=fy (fun b c=>d' b c) l
 | [],_=>rfl
 | [c],h=>by simp only [fy,AH c h.1]
 | c::d::cs,h=>by
   have cn:(decide (c.k=7)&&cx true c)=(decide (c.k=7)&&d' true c):=by
    rw [MJ c]
    by_cases q:c.k=7
    · rw [decide_eq_true q,Bool.true_and]
    · have:d' true c=false:=by simp [d',lU,q]
      rw [this,Bool.and_false]
   have aT:fy cx (d::cs)=fy (fun b c=>d' b c) (d::cs):=L0 (d::cs) h.2
   simp only [fy] at aT ⊢
   rw [cn,Zr c h.1,aT]
theorem Zr:∀(c:aw),zE 1073741824 c→ir cx c=ir (fun b c=>d' b c) c
 | .mk k x n s a t l,h=>by simp only [ir,Zo l h.2]
theorem Zo:∀(l:List aw),u3 1073741824 l→mX cx l=mX (fun b c=>d' b c) l
 | [],_=>rfl
 | c::cs,h=>by simp only [mX,AH c h.1]
end
def ins (x:Int):List Int→List Int
 | []=>[x]
 | y::l=>if y<x then y::ins x l else if y=x then y::l else x::y::l
def rising (l:List Int):List Int:=l.foldl (fun o x=>ins x o) []
theorem E3 {x z:Int}:∀{l:List Int},z ∈ ins x l↔z=x∨z ∈ l
 | []=>by simp [ins]
 | y::l=>by
   simp only [ins]
   split
   · simp only [List.mem_cons,E3 (l:=l)];grind
   · split
     · simp only [List.mem_cons];grind
     · simp only [List.mem_cons]
theorem Lk {x:Int}:∀{l:List Int},l.Pairwise (· < ·)→(ins x l).Pairwise (· < ·)
 | [],_=>by simp [ins]
 | y::l,h=>by
   obtain ⟨ab,af⟩:=List.pairwise_cons.1 h
   simp only [ins]
   split
   · refine List.pairwise_cons.2 ⟨fun z aV=>?_,Lk af⟩
     rcases E3.1 aV with rfl | aV
     · assumption
     · exact ab z aV
   · split
     · exact h
     · refine List.pairwise_cons.2 ⟨fun z aV=>?_,h⟩
       rcases List.mem_cons.1 aV with rfl | aV
       · omega
       · have:=ab z aV;omega
theorem Di:∀(l o:List Int),o.Pairwise (· < ·)→(l.foldl (fun o x=>ins x o) o).Pairwise (· < ·)∧∀z,z ∈ l.foldl (fun o x=>ins x o) o↔z ∈ o∨z ∈ l
 | [],o,h=>⟨h,fun z=>by simp⟩
 | x::l,o,h=>by
   obtain ⟨ab,af⟩:=Di l (ins x o) (Lk h)
   refine ⟨ab,fun z=>?_⟩
   rw [List.foldl_cons,af z,E3,List.mem_cons]
   grind
theorem yk (l:List Int):(rising l).Pairwise (· < ·):=(Di l [] List.Pairwise.nil).1
theorem sf {l:List Int} {z:Int}:z ∈ rising l↔z ∈ l:=by simpa [rising] using (Di l [] List.Pairwise.nil).2 z
theorem yr:∀{a b:List Int},a.Pairwise (· < ·)→b.Pairwise (· < ·)→(∀z,z ∈ a↔z ∈ b)→a=b
 | [],[],_,_,_=>rfl
 | [],y::b,_,_,h=>by have:=(h y).2 (by simp);simp at this
 | x::a,[],_,_,h=>by have:=(h x).1 (by simp);simp at this
 | x::a,y::b,bH,ah,h=>by
   obtain ⟨bB,bJ⟩:=List.pairwise_cons.1 bH
   obtain ⟨cJ,ct⟩:=List.pairwise_cons.1 ah
   have pK:x=y:=by
    have aG:=(h x).1 (by simp)
    have az:=(h y).2 (by simp)
    rcases List.mem_cons.1 aG with e | aG
    · exact e
    · rcases List.mem_cons.1 az with e | az
      · exact e.symm
      · have:=cJ x aG;have:=bB y az;omega
   subst pK
   congr 1
   refine yr bJ ct fun z=>?_
   have:=h z
   simp only [List.mem_cons] at this
   constructor
   · intro aV
     have aS:=bB z aV
     rcases this.1 (.inr aV) with e | q
     · omega
     · exact q
   · intro aV
     have aS:=cJ z aV
     rcases this.2 (.inr aV) with e | q
     · omega
     · exact q
def lP (x:Int):List Int→List Int
 | []=>[]
 | y::l=>if y=x then lP x l else y::lP y l
def rS:List Int→List Int
 | []=>[]
 | x::l=>x::lP x l
theorem C5:∀(l:List Int) (x:Int),(x::l).Pairwise (·≤·)→(x::lP x l).Pairwise (· < ·)∧∀z,z ∈ x::lP x l↔z ∈ x::l
 | [],x,_=>⟨by simp [lP],fun z=>by simp [lP]⟩
 | y::l,x,h=>by
   obtain ⟨ab,af⟩:=List.pairwise_cons.1 h
   simp only [lP]
   by_cases e:y=x
   · rw [if_pos e]
     subst e
     obtain ⟨bF,bz⟩:=C5 l y af
     exact ⟨bF,fun z=>by rw [bz z];simp⟩
   · rw [if_neg e]
     obtain ⟨bF,bz⟩:=C5 l y af
     have pK:x<y:=by have:=ab y (by simp);omega
     refine ⟨List.pairwise_cons.2 ⟨fun z aV=>?_,bF⟩,fun z=>by rw [List.mem_cons,bz z,List.mem_cons (a:=z) (b:=x)]⟩
     rw [bz z] at aV
     rcases List.mem_cons.1 aV with rfl | aV
     · exact pK
     · have:=(List.pairwise_cons.1 af).1 z aV;omega
theorem SJ {l m:List Int} (h:m.Pairwise (·≤·)) (aH:m.Perm l):rS m=rising l:=by
 cases m with
 | nil=>have:=aH.nil_eq;subst this;rfl
 | cons x m=>
   obtain ⟨ab,af⟩:=C5 m x h
   exact yr ab (yk l) fun z=>by rw [show z ∈ rS (x::m)↔z ∈ x::m from af z,sf,aH.mem_iff]
theorem acj {l m ay:List Int} (h:m.Pairwise (·≤·)) (aH:m.Perm ay) (aX:ay.Nodup) (hm:∀z,z ∈ ay↔z ∈ l):m=rising l:=by
 have ji:m.Nodup:=aH.symm.nodup aX
 have aS:m.Pairwise (· < ·):=by
  have:=h.and ji
  exact this.imp fun q=>by omega
 exact yr aS (yk l) fun z=>by rw [aH.mem_iff,hm z,sf]
def dL (k:Int):Bool:=decide (k=2)||decide (k=11)
def ownNames (k x:Int) (l:List aw):List Int:=if k=7 then [x] else if k=8 then l.dropLast.map aw.n else []
mutual
def order:aw→List Int
 | .mk k x n s a t l=>ownNames k x l++hk (dL k) x l 0
def hk (late:Bool) (x:Int):List aw→Nat→List Int
 | [],_=>[]
 | c::cs,i=>(if late&&i == 1 then [x] else [])++order c++hk late x cs (i+1)
end
def jw (b:List Int) (a:List At):List Int:=(a.filter fun q=>decide (q.k=1)&&!b.contains q.n).map At.n
mutual
def free:aw→List Int→List Int
 | .mk k x n s a t l,b=>jw b a++hB (dL k) x l (b++ownNames k x l) 0
def hB (late:Bool) (x:Int):List aw→List Int→Nat→List Int
 | [],_,_=>[]
 | c::cs,b,i=>free c (if late&&i == 1 then b++[x] else b)++hB late x cs b (i+1)
end
mutual
def o5:aw→Prop
 | .mk k x n s a t l=>(k=8→1≤l.length)∧k≠14∧(dL k=true→l.length=2)∧pY l
def pY:List aw→Prop
 | []=>True
 | c::cs=>o5 c∧pY cs
end
theorem aay {b:Bool} {c:aw} (h:d' b c=true):c.k≠14∧(dL c.k=true→c.l.length=2):=by
 obtain ⟨k,x,n,s,a,t,l⟩:=c
 cases b with
 | true=>
   simp only [d',if_true,lU,Bool.and_eq_true] at h
   have cn:k=7:=of_decide_eq_true h.1.1.1.1.1
   subst cn
   exact ⟨by simp [aw.k],fun q=>by simp [dL,aw.k] at q⟩
 | false=>
   simp only [d',lU,sR,aw.k,aw.l,dL] at h ⊢
   grind
mutual
theorem AQ:∀(c:aw),may (fun b c=>d' b c) c=true→o5 c
 | .mk k x n s a t l,h=>by
   simp only [may] at h
   by_cases al:k=8
   · rw [if_pos al] at h
     simp only [Bool.and_eq_true,decide_eq_true_eq] at h
     refine ⟨fun _=>by omega,by omega,fun q=>by subst al;simp [dL] at q,Mn l h.2⟩
   · rw [if_neg al] at h
     simp only [Bool.and_eq_true] at h
     obtain ⟨aG,az⟩:=aay h.1
     exact ⟨fun e=>absurd e al,aG,az,Mm l h.2⟩
theorem Mm:∀(l:List aw),h' (fun b c=>d' b c) l=true→pY l
 | [],_=>trivial
 | c::cs,h=>by
   simp only [h',Bool.and_eq_true] at h
   exact ⟨AQ c h.1,Mm cs h.2⟩
theorem Mn:∀(l:List aw),fy (fun b c=>d' b c) l=true→pY l
 | [],_=>trivial
 | [c],h=>by
   simp only [fy] at h
   exact ⟨AQ c h,trivial⟩
 | c::d::cs,h=>by
   have aa:((decide (c.k=7)&&d' true c)&&ir (fun b c=>d' b c) c&&fy (fun b c=>d' b c) (d::cs))=true:=by simpa only [fy] using h
   simp only [Bool.and_eq_true,decide_eq_true_eq] at aa
   exact ⟨ZY c aa.1.1.1 aa.1.1.2 aa.1.2,Mn (d::cs) aa.2⟩
theorem ZY:∀(c:aw),c.k=7→d' true c=true→ir (fun b c=>d' b c) c=true→o5 c
 | .mk k x n s a t l,cn,bt,h=>by
   simp only [aw.k] at cn
   subst cn
   simp only [d',if_true,lU,Bool.and_eq_true] at bt
   have ab:l.length=1:=of_decide_eq_true bt.2
   exact ⟨fun e=>by omega,by decide,fun q=>by simp [dL] at q,ZZ l ab (by simpa only [ir] using h)⟩
theorem ZZ:∀(l:List aw),l.length=1→mX (fun b c=>d' b c) l=true→pY l
 | [c],_,h=>⟨AQ c (by simpa only [mX] using h),trivial⟩
 | [],aB,_=>by simp at aB
 | _::_::_,aB,_=>by simp at aB
end
abbrev gP:=List (Int × Nat)
inductive dk where
 | int (n:Int)
 | text (s:List UInt8)
 | fn (x:Int) (c:aw) (e:gP)
 | dt (t:Int) (bw:List Nat)
structure hN where
 ix:Bool
 x:Int
 c:aw
 e:gP
structure av where
 c:aw
 e:gP
 w:List hN
 st:List dk
 out:List UInt8
 read:Nat
 hF:Bool
 h5:Int
 j2:Int
def m6:gP→Int→Nat
 | [],_=>0
 | (m,j)::L,n=>if m=n then j else m6 L n
def wr (n:Int):Int:=(n+1073741824) % 2147483648-1073741824
namespace av
def val (S:av) (j:Nat):dk:=S.st.getD j (.int 0)
def fa (S:av) (v:dk):av:={S with st:=S.st++[v]}
def ends (S:av) (r_:Int):av:={S with hF:=true,h5:=r_}
def zS (S:av) (a:hN) (w:List hN) (j:Nat):av:={S with w:=w,c:=a.c,e:=(a.x,j)::a.e}
def qa (S:av) (j:Nat):List hN→av
 | []=>{S with w:=[]}.ends 0
 | a::w=>if a.ix then qa S j w else S.zS a w j
def l9 (S:av) (j:Nat):av:=S.qa j S.w
def k5 (S:av) (j:Nat):List hN→av
 | []=>match S.val j with
   | .dt t _=>{({S with w:=[]}.ends 1) with j2:=t}
   | _=>{S with w:=[]}.ends 6
 | a::w=>if a.ix then S.zS a w j else k5 S j w
def o8 (S:av) (j:Nat):av:=S.k5 j S.w
def dw (S:av) (v:dk):av:=(S.fa v).l9 S.st.length
def k6 (S:av) (v:dk):av:=(S.fa v).o8 S.st.length
def gM (S:av):av:=S.ends 6
def intOf:dk→Option Int
 | .int n=>some n
 | _=>none
def afj:dk→Option (List UInt8)
 | .text s=>some s
 | _=>none
def n4 (b:Bool):dk:=.dt (if b then 1 else 0) []
def gV (S:av) (bd:List Nat) (k:Int→Int→av):av:=
 match S.val (bd.getD 0 0),S.val (bd.getD 1 0) with
 | .int a,.int b=>k a b
 | _,_=>S.gM
def jm (S:av) (bd:List Nat) (k:Int→av):av:=
 match S.val (bd.getD 0 0) with
 | .int a=>k a
 | _=>S.gM
def k_ (S:av) (bd:List Nat) (k:List UInt8→av):av:=
 match S.val (bd.getD 0 0) with
 | .text a=>k a
 | _=>S.gM
def qB (S:av) (bd:List Nat):av:=
 match S.val (bd.getD 0 0),S.val (bd.getD 1 0) with
 | .text s,.int i=>if 0≤i∧i < (s.length:Int) then S.dw (.int (((s[i.toNat]?).getD 0).toNat:Int)) else S.k6 (.dt 2 [])
 | _,_=>S.gM
def cut (S:av) (bd:List Nat):av:=
 match S.val (bd.getD 0 0),S.val (bd.getD 1 0),S.val (bd.getD 2 0) with
 | .text s,.int a,.int n=>if 0≤a∧0≤n∧a+n≤(s.length:Int) then S.dw (.text ((s.drop a.toNat).take n.toNat)) else S.k6 (.dt 2 [])
 | _,_,_=>S.gM
def join (S:av) (bd:List Nat):av:=
 match S.val (bd.getD 0 0),S.val (bd.getD 1 0) with
 | .text s,.text t=>if s.length+t.length≤4096 then S.dw (.text (s++t)) else S.k6 (.dt 2 [])
 | _,_=>S.gM
def su (S:av) (bd:List Nat):av:=
 match S.val (bd.getD 0 0) with
 | .dt t bw=>if t=0∧bw.length=1 then {S with st:=S.st.set (bd.getD 0 0) (.dt 0 [bd.getD 1 0])}.dw (.dt 0 []) else S.gM
 | _=>S.gM
def u' (S:av) (bp:List UInt8):av:=
 if bp.length≤S.read then S.dw (.int (-1)) else {S with read:=S.read+1}.dw (.int (((bp[S.read]?).getD 0).toNat:Int))
def byteOf (n:Int):UInt8:=UInt8.ofNat (n % 256).toNat
def lC (S:av) (bp:List UInt8) (s:List UInt8) (bd:List Nat):av:=
 if s=[97,100,100] then S.gV bd fun a b=>S.dw (.int (wr (a+b)))
 else if s=[115,117,98] then S.gV bd fun a b=>S.dw (.int (wr (a-b)))
 else if s=[109,117,108] then S.gV bd fun a b=>S.dw (.int (wr (a * b)))
 else if s=[101,113] then S.gV bd fun a b=>S.dw (n4 (decide (a=b)))
 else if s=[108,116] then S.gV bd fun a b=>S.dw (n4 (decide (a<b)))
 else if s=[108,101] then S.gV bd fun a b=>S.dw (n4 (decide (a≤b)))
 else if s=[100,105,118] then S.gV bd fun a b=>if b=0 then S.k6 (.dt 1 []) else S.dw (.int (wr (a.tdiv b)))
 else if s=[109,111,100] then S.gV bd fun a b=>if b=0 then S.k6 (.dt 1 []) else S.dw (.int (wr (a.tmod b)))
 else if s=[110,101,103] then S.jm bd fun a=>S.dw (.int (wr (-a)))
 else if s=[103,101,116,99] then S.u' bp
 else if s=[112,117,116,99] then S.jm bd fun a=>{S with out:=S.out++[byteOf a]}.dw (.dt 0 [])
 else if s=[112,117,116,115] then S.k_ bd fun t=>{S with out:=S.out++t}.dw (.dt 0 [])
 else if s=[115,105,122,101] then S.k_ bd fun t=>S.dw (.int t.length)
 else if s=[99,104,114] then S.jm bd fun a=>S.dw (.text [byteOf a])
 else if s=[98,121,116,101] then S.qB bd
 else if s=[99,117,116] then S.cut bd
 else if s=[106,111,105,110] then S.join bd
 else if s=[115,101,116] then S.su bd
 else S
def p0:List Int→Int→Nat
 | [],_=>0
 | t::l,n=>if t=n then 0 else p0 l n+1
def lW (S:av) (at_:Nat):av:=
 match S.c.l[at_]? with
 | some d=>{S with c:=d}
 | none=>S.gM
def iC (S:av) (gW:Bool) (j:Nat):av:=
 match S.val j with
 | .dt t _=>if gW then S.gM else S.lW (p0 S.c.t t)
 | .int n=>if gW then S.lW (p0 S.c.t n) else S.gM
 | _=>S.gM
def gX (T:av) (f:aw):av:={T.fa (.fn f.x (f.l.headD f) []) with e:=(f.n,T.st.length)::T.e}
def e1 (S:av) (l:List aw):av:=l.foldl gX S
def hX (e:gP) (at_:Nat) (st:List dk):List aw→List dk
 | []=>st
 | f::l=>hX e (at_+1) (st.set at_ (.fn f.x (f.l.headD f) e)) l
def n0 (S:av):av:=
 let T:=S.e1 S.c.l.dropLast
 {T with st:=hX T.e S.st.length T.st S.c.l.dropLast,c:=S.c.l.getLastD S.c}
def call (S:av) (f v:Nat):av:=
 match S.val f with
 | .fn x c e=>{S with c:=c,e:=(x,v)::e}
 | _=>S.gM
def mD (S:av) (n:Int) (j:Nat):av:=
 match S.val j with
 | .dt _ bw=>if (bw.length:Int)≤n then S.gM else S.l9 (bw.getD n.toNat 0)
 | _=>S.gM
def atom (S:av) (a:At):av × Nat:=
 if a.k=1 then (S,m6 S.e a.n) else if a.k=2 then (S.fa (.int a.n),S.st.length) else (S.fa (.text a.s),S.st.length)
def j0 (p:av × List Nat) (a:At):av × List Nat:=((p.1.atom a).1,p.2++[(p.1.atom a).2])
def atoms (S:av) (l:List At):av × List Nat:=l.foldl j0 (S,[])
def en (S:av) (i:Nat):aw:=S.c.l.getD i S.c
def waits (S:av):av:={S with w:=⟨decide (S.c.k=11),S.c.x,S.en 1,S.e⟩::S.w,c:=S.en 0}
def ew (S:av) (bp:List UInt8) (bd:List Nat):av:=
 if S.c.k=1 then S.l9 (bd.getD 0 0)
 else if S.c.k=2∨S.c.k=11 then S.waits
 else if S.c.k=3 then S.lC bp S.c.s bd
 else if S.c.k=4 then S.dw (.dt S.c.n bd)
 else if S.c.k=5 then S.mD S.c.n (bd.getD 0 0)
 else if S.c.k=6 then S.call (bd.getD 0 0) (bd.getD 1 0)
 else if S.c.k=7 then S.dw (.fn S.c.x (S.en 0) S.e)
 else if S.c.k=8 then S.n0
 else if S.c.k=9 then S.iC false (bd.getD 0 0)
 else if S.c.k=10 then S.iC true (bd.getD 0 0)
 else if S.c.k=12 then S.o8 (bd.getD 0 0)
 else S
def step (S:av) (bp:List UInt8):av:=(S.atoms S.c.a).1.ew bp (S.atoms S.c.a).2
def nth (S:av) (bp:List UInt8):Nat→av
 | 0=>S
 | n+1=>(nth S bp n).step bp
end av
def start (c:aw):av:=⟨c,[],[],[],[],0,false,0,0⟩
structure oh where
 h5:Int
 j2:Int
 read:Int
 steps:Int
 out:List UInt8
def uz (c:aw) (bp:List UInt8) (steps:Int) (l:oh):Prop:=
 ∃i:Nat,(∀j,j<i→((start c).nth bp j).hF=false)∧((i:Int)≤steps)∧(((start c).nth bp i).hF=true∨(i:Int)=steps)∧
  l=⟨if ((start c).nth bp i).hF=true then ((start c).nth bp i).h5 else 4,((start c).nth bp i).j2,((start c).nth bp i).read,i,((start c).nth bp i).out⟩
theorem S4 {c:aw} {bp:List UInt8} {steps:Int} {l m:oh} (h:uz c bp steps l) (aa:uz c bp steps m):l=m:=by
 obtain ⟨i,bB,bJ,a3,rfl⟩:=h
 obtain ⟨j,cJ,ct,eQ,rfl⟩:=aa
 have:i=j:=by
  rcases Nat.lt_trichotomy i j with q | q | q
  · have:=cJ i q
    rcases a3 with a3 | a3
    · rw [this] at a3;cases a3
    · omega
  · exact q
  · have:=bB j q
    rcases eQ with eQ | eQ
    · rw [this] at eQ;cases eQ
    · omega
 subst this
 rfl
end Go.Proofs.YtjbiefneffiogaaGreat
