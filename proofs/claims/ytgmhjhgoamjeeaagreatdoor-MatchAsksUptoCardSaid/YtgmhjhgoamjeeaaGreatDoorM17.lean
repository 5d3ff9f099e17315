/- The abstract machine and its walks (a verified interpreter of the model's code: plain definitions and lemmas, no condition). Printed by a program from longer texts: names made short. -/
import Derived.Test.YtgmhjhgoamjeeaaGreatDoorM15
set_option linter.unusedSectionVars false
set_option linter.unusedSimpArgs false
set_option linter.unusedVariables false
set_option maxHeartbeats 64000000
noncomputable section
namespace Go.Proofs.YtgmhjhgoamjeeaaGreatDoor.aZ
section
open Go Go.RowKit
variable [Lay]
section
variable {P:Program}
theorem G.wp_mono {g:G} {r:bd} {h:ae} {C D:V->ae->Prop} (sE:∀v h,C v h->D v h) (w:g.wp P r h C):g.wp P r h D:=by
 cases g
 case call f args=>exact cv.mono w sE
 case ma f args=>
  obtain ⟨g,xs,bP,bH⟩:=w;refine ⟨g,xs,bP,?_⟩;unfold CL at bH ⊢
  split at bH
  . rename_i q;rw [apB q];obtain ⟨cu,b,e,v,aa,t1,t2⟩:=bH;exact ⟨cu,b,e,v,aa,t1,sE _ _ t2⟩
  . rename_i q;rw [apu q];exact cv.mono bH sE
 all_goals
  obtain ⟨v,aa,bP,bH⟩:=w;exact ⟨v,aa,bP,sE _ _ bH⟩
theorem bs.wp_mono {o:bs} {r:bd} {h:ae} {A B:bd->V->ae->Prop} (pV:∀r v h,A r v h->B r v h) (z:o.wp P r h A):o.wp P r h B:=by
 unfold bs.wp at z ⊢
 split at z
 . exact G.wp_mono (fun v aa t=>pV _ _ _ t) z
 . unfold gate at z ⊢
   split at z
   . exact ⟨fun t=>G.wp_mono (fun v aa t=>pV _ _ _ t) (z.1 t),fun t=>pV _ _ _ (z.2 t)⟩
   . exact pV _ _ _ z
   . exact z
theorem Ml:∀{os:List bs} {r:bd} {h:ae} {A B:bd->ae->Prop},(∀r h,A r h->B r h)->ow P os r h A->ow P os r h B
 | [],_,_,_,_,f,H=>f _ _ H
 | o::os,r,h,A,B,f,H=>bs.wp_mono (fun bb v aa t=>Ml (os:=os) f t) H
theorem Mj:∀{os:List bs} {r:bd} {h:ae} {A B:List fQ->bd->ae->Prop},(∀es r h,A es r h->B es r h)->ks P os r h A->ks P os r h B
 | [],_,_,_,_,f,H=>f _ _ _ H
 | o::os,r,h,A,B,f,H=>bs.wp_mono (fun bb v aa t=>Mj (os:=os) (fun es r h q=>f _ r h q) t) H
def G.afA:G->Bool
 | .mG _=>true
 | _=>false
def aX.l5:aX->Bool
 | .ak ops=>ops.all fun o=>!o.g.afA
 | .seq a b=>a.l5&&b.l5
 | .cond _ a b=>a.l5&&b.l5
 | .block _ b=>b.l5
 | .loop b=>b.l5
 | .range _ _ _ _ _=>false
 | _=>true
theorem Al {e:cP} {A iY B tC:Prop} (bw:A->iY) (ah:B->tC) (H:e.andThen A B):e.andThen iY tC:=by
 cases e<;>first
  | exact bw H
  | exact ah H
theorem Ij:∀(rc:aX) {r:bd} {h:ae} {Q de:cP->bd->ae->Prop},rc.l5=true->(∀e r h,Q e r h->de e r h)->fm P rc r h Q->fT P rc r h de:=by
 intro rc
 induction rc with
 | ak ops=>
   intro r h Q de aV f H;refine P7 ops r h _ (fun o aT x e=>?_) (Ml (f .normal) H);have:=apP.1 aV o aT;rw [e] at this;cases this
 | draw ops asks=>
   intro r h Q de aV f H;exact Mj (fun es r h t=>⟨t.1,f _ _ _ t.2⟩) H
 | seq a b wN wO=>
   intro r h Q de aV f H;simp only [aX.l5,apn] at aV;exact wN aV.1 (fun e r h t=>Al (fun q=>wO aV.2 f q) (f _ _ _) t) H
 | cond c a b wN wO=>
   intro r h Q de aV f H;simp only [aX.l5,apn] at aV;simp only [fm] at H;simp only [fT];cases bA:c.aQ r<;>rw [bA] at H<;>simp only at H ⊢;exact ⟨fun t=>wN aV.1 f (H.1 t),fun t=>wO aV.2 f (H.2 t)⟩
 | block id b bh=>intro r h Q de aV f H;exact bh aV (fun e r h t=>f _ _ _ t) H
 | loop b bh=>
   intro r h Q de aV f H;obtain ⟨I,μ,aY,U⟩:=H;exact ⟨I,μ,aY,fun r h ax=>bh aV (fun e r h t=>Al (fun q=>q) (f _ _ _) t) (U r h ax)⟩
 | bad=>intro r h Q de aV f H;exact H
 | skip=>intro r h Q de aV f H;exact f _ _ _ H
 | exit id=>intro r h Q de aV f H;exact f _ _ _ H
 | ret=>intro r h Q de aV f H;exact f _ _ _ H
 | range f bn aw a b _ _=>intro r h Q de aV;cases aV
theorem anl:∀(rc:aX) {r:bd} {h:ae} {Q de:cP->bd->ae->Prop},rc.l5=true->(∀e r h,Q e r h->de e r h)->fm P rc r h Q->fm P rc r h de:=by
 intro rc
 induction rc with
 | ak ops=>intro r h Q de aV f H;exact Ml (f .normal) H
 | draw ops asks=>intro r h Q de aV f H;exact Mj (fun es r h t=>⟨t.1,f _ _ _ t.2⟩) H
 | seq a b wN wO=>
   intro r h Q de aV f H;simp only [aX.l5,apn] at aV;exact wN aV.1 (fun e r h t=>Al (fun q=>wO aV.2 f q) (f _ _ _) t) H
 | cond c a b wN wO=>
   intro r h Q de aV f H;simp only [aX.l5,apn] at aV;simp only [fm] at H ⊢;cases bA:c.aQ r<;>rw [bA] at H<;>simp only at H ⊢;exact ⟨fun t=>wN aV.1 f (H.1 t),fun t=>wO aV.2 f (H.2 t)⟩
 | block id b bh=>intro r h Q de aV f H;exact bh aV (fun e r h t=>f _ _ _ t) H
 | loop b bh=>
   intro r h Q de aV f H;obtain ⟨I,μ,aY,U⟩:=H;exact ⟨I,μ,aY,fun r h ax=>bh aV (fun e r h t=>Al (fun q=>q) (f _ _ _) t) (U r h ax)⟩
 | bad=>intro r h Q de aV f H;exact H
 | skip=>intro r h Q de aV f H;exact f _ _ _ H
 | exit id=>intro r h Q de aV f H;exact f _ _ _ H
 | ret=>intro r h Q de aV f H;exact f _ _ _ H
 | range f bn aw a b _ _=>intro r h Q de aV;cases aV
theorem Mk {a:aX} {aN:List hS} {r:bd} {h:ae} {Q:cP->bd->ae->Prop} (J:bd->ae->Prop) (aV:a.l5=true) (H:fm P a r h fun e bb aa=>e.andThen (J bb aa) (bo P aN e bb aa Q)) (K:∀bb aa,J bb aa->bo P aN .normal bb aa Q):bo P (.c a::aN) .normal r h Q:=
 anl a aV (fun e bb aa t=>by
  cases e with
  | normal=>exact K bb aa t
  | exit i=>exact t
  | ret=>exact t) H
theorem aa_ {a b:aX} {r:bd} {h:ae} {Q:cP->bd->ae->Prop} (aV:a.l5=true) (H:fm P a r h fun e bb aa=>e.andThen (fT P b bb aa Q) (Q e bb aa)):fT P (.seq a b) r h Q:=
 Ij a aV (fun _ _ _ q=>q) H
theorem Ii {a:aX} {r:bd} {h:ae} {Q:cP->bd->ae->Prop} (aV:a.l5=true) (H:fm P a r h Q):fT P a r h Q:=Ij a aV (fun _ _ _ q=>q) H
end
end
end Go.Proofs.YtgmhjhgoamjeeaaGreatDoor.aZ
