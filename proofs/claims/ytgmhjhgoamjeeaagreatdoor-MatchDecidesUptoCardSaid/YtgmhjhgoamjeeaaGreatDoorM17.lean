/- The abstract machine and its walks (a verified interpreter of the model's code: plain definitions and lemmas, no condition). Printed by a program from longer texts: names made short. -/
import Derived.Test.YtgmhjhgoamjeeaaGreatDoorM15
set_option linter.unusedSectionVars false
set_option linter.unusedSimpArgs false
set_option linter.unusedVariables false
set_option maxHeartbeats 64000000
noncomputable section
namespace Go.Proofs.YtgmhjhgoamjeeaaGreatDoor.aX
section
open Go Go.RowKit
variable [Lay]
section
variable {P:Program}
theorem G.wp_mono {g:G} {r:bf} {h:ae} {C D:V->ae->Prop} (sR:∀v h,C v h->D v h) (w:g.wp P r h C):g.wp P r h D:=by
 cases g
 case call f args=>exact cR.mono w sR
 case l3 f args=>
  obtain ⟨g,xs,bX,bA⟩:=w;refine ⟨g,xs,bX,?_⟩;unfold Dl at bA ⊢
  split at bA
  . rename_i q;rw [arz q];obtain ⟨cx,b,e,v,ab,t1,t2⟩:=bA;exact ⟨cx,b,e,v,ab,t1,sR _ _ t2⟩
  . rename_i q;rw [arw q];exact cR.mono bA sR
 all_goals
  obtain ⟨v,ab,bX,bA⟩:=w;exact ⟨v,ab,bX,sR _ _ bA⟩
theorem bx.wp_mono {o:bx} {r:bf} {h:ae} {A B:bf->V->ae->Prop} (p7:∀r v h,A r v h->B r v h) (z:o.wp P r h A):o.wp P r h B:=by
 unfold bx.wp at z ⊢
 split at z
 . exact G.wp_mono (fun v ab t=>p7 _ _ _ t) z
 . unfold gate at z ⊢
   split at z
   . exact ⟨fun t=>G.wp_mono (fun v ab t=>p7 _ _ _ t) (z.1 t),fun t=>p7 _ _ _ (z.2 t)⟩
   . exact p7 _ _ _ z
   . exact z
theorem Nd:∀{os:List bx} {r:bf} {h:ae} {A B:bf->ae->Prop},(∀r h,A r h->B r h)->oV P os r h A->oV P os r h B
 | [],_,_,_,_,f,H=>f _ _ H
 | o::os,r,h,A,B,f,H=>bx.wp_mono (fun a7 v ab t=>Nd (os:=os) f t) H
theorem Nb:∀{os:List bx} {r:bf} {h:ae} {A B:List fM->bf->ae->Prop},(∀es r h,A es r h->B es r h)->kH P os r h A->kH P os r h B
 | [],_,_,_,_,f,H=>f _ _ _ H
 | o::os,r,h,A,B,f,H=>bx.wp_mono (fun a7 v ab t=>Nb (os:=os) (fun es r h q=>f _ r h q) t) H
def G.ahn:G->Bool
 | .mj _=>true
 | _=>false
def a1.mi:a1->Bool
 | .an ops=>ops.all fun o=>!o.g.ahn
 | .seq a b=>a.mi&&b.mi
 | .cond _ a b=>a.mi&&b.mi
 | .block _ b=>b.mi
 | .loop b=>b.mi
 | .range _ _ _ _ _=>false
 | _=>true
theorem AR {e:cT} {A i_ B tU:Prop} (bs:A->i_) (ah:B->tU) (H:e.andThen A B):e.andThen i_ tU:=by
 cases e<;>first
  | exact bs H
  | exact ah H
theorem I_:∀(rc:a1) {r:bf} {h:ae} {Q dn:cT->bf->ae->Prop},rc.mi=true->(∀e r h,Q e r h->dn e r h)->ff P rc r h Q->fj P rc r h dn:=by
 intro rc
 induction rc with
 | an ops=>
   intro r h Q dn aV f H;refine Q' ops r h _ (fun o aW x e=>?_) (Nd (f .normal) H);have:=arU.1 aV o aW;rw [e] at this;cases this
 | draw ops asks=>
   intro r h Q dn aV f H;exact Nb (fun es r h t=>⟨t.1,f _ _ _ t.2⟩) H
 | seq a b w1 w2=>
   intro r h Q dn aV f H;simp only [a1.mi,arp] at aV;exact w1 aV.1 (fun e r h t=>AR (fun q=>w2 aV.2 f q) (f _ _ _) t) H
 | cond c a b w1 w2=>
   intro r h Q dn aV f H;simp only [a1.mi,arp] at aV;simp only [ff] at H;simp only [fj];cases bt:c.aQ r<;>rw [bt] at H<;>simp only at H ⊢;exact ⟨fun t=>w1 aV.1 f (H.1 t),fun t=>w2 aV.2 f (H.2 t)⟩
 | block id b bc=>intro r h Q dn aV f H;exact bc aV (fun e r h t=>f _ _ _ t) H
 | loop b bc=>
   intro r h Q dn aV f H;obtain ⟨I,μ,aY,aa⟩:=H;exact ⟨I,μ,aY,fun r h aw=>bc aV (fun e r h t=>AR (fun q=>q) (f _ _ _) t) (aa r h aw)⟩
 | bad=>intro r h Q dn aV f H;exact H
 | skip=>intro r h Q dn aV f H;exact f _ _ _ H
 | exit id=>intro r h Q dn aV f H;exact f _ _ _ H
 | ret=>intro r h Q dn aV f H;exact f _ _ _ H
 | range f bo ar a b _ _=>intro r h Q dn aV;cases aV
theorem aoX:∀(rc:a1) {r:bf} {h:ae} {Q dn:cT->bf->ae->Prop},rc.mi=true->(∀e r h,Q e r h->dn e r h)->ff P rc r h Q->ff P rc r h dn:=by
 intro rc
 induction rc with
 | an ops=>intro r h Q dn aV f H;exact Nd (f .normal) H
 | draw ops asks=>intro r h Q dn aV f H;exact Nb (fun es r h t=>⟨t.1,f _ _ _ t.2⟩) H
 | seq a b w1 w2=>
   intro r h Q dn aV f H;simp only [a1.mi,arp] at aV;exact w1 aV.1 (fun e r h t=>AR (fun q=>w2 aV.2 f q) (f _ _ _) t) H
 | cond c a b w1 w2=>
   intro r h Q dn aV f H;simp only [a1.mi,arp] at aV;simp only [ff] at H ⊢;cases bt:c.aQ r<;>rw [bt] at H<;>simp only at H ⊢;exact ⟨fun t=>w1 aV.1 f (H.1 t),fun t=>w2 aV.2 f (H.2 t)⟩
 | block id b bc=>intro r h Q dn aV f H;exact bc aV (fun e r h t=>f _ _ _ t) H
 | loop b bc=>
   intro r h Q dn aV f H;obtain ⟨I,μ,aY,aa⟩:=H;exact ⟨I,μ,aY,fun r h aw=>bc aV (fun e r h t=>AR (fun q=>q) (f _ _ _) t) (aa r h aw)⟩
 | bad=>intro r h Q dn aV f H;exact H
 | skip=>intro r h Q dn aV f H;exact f _ _ _ H
 | exit id=>intro r h Q dn aV f H;exact f _ _ _ H
 | ret=>intro r h Q dn aV f H;exact f _ _ _ H
 | range f bo ar a b _ _=>intro r h Q dn aV;cases aV
theorem Nc {a:a1} {aN:List iC} {r:bf} {h:ae} {Q:cT->bf->ae->Prop} (J:bf->ae->Prop) (aV:a.mi=true) (H:ff P a r h fun e a7 ab=>e.andThen (J a7 ab) (bq P aN e a7 ab Q)) (K:∀a7 ab,J a7 ab->bq P aN .normal a7 ab Q):bq P (.c a::aN) .normal r h Q:=
 aoX a aV (fun e a7 ab t=>by
  cases e with
  | normal=>exact K a7 ab t
  | exit i=>exact t
  | ret=>exact t) H
theorem Rc {a b:a1} {r:bf} {h:ae} {Q:cT->bf->ae->Prop} (aV:a.mi=true) (H:ff P a r h fun e a7 ab=>e.andThen (fj P b a7 ab Q) (Q e a7 ab)):fj P (.seq a b) r h Q:=
 I_ a aV (fun _ _ _ q=>q) H
theorem ov {a:a1} {r:bf} {h:ae} {Q:cT->bf->ae->Prop} (aV:a.mi=true) (H:ff P a r h Q):fj P a r h Q:=I_ a aV (fun _ _ _ q=>q) H
end
end
end Go.Proofs.YtgmhjhgoamjeeaaGreatDoor.aX
