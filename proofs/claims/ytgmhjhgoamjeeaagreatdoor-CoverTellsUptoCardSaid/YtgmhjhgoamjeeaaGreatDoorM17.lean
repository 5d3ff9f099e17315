/- The abstract machine and its walks (a verified interpreter of the model's code: plain definitions and lemmas, no condition). Printed by a program from longer texts: names made short. -/
import Derived.Test.YtgmhjhgoamjeeaaGreatDoorM15
set_option linter.unusedSectionVars false
set_option linter.unusedSimpArgs false
set_option linter.unusedVariables false
set_option maxHeartbeats 64000000
noncomputable section
namespace Go.Proofs.YtgmhjhgoamjeeaaGreatDoor.a7
section
open Go Go.RowKit
variable [Lay]
section
variable {P:Program}
theorem G.wp_mono {g:G} {r:bg} {h:ag} {C D:V->ag->Prop} (sW:∀v h,C v h->D v h) (w:g.wp P r h C):g.wp P r h D:=by
 cases g
 case call f args=>exact cr.mono w sW
 case qb f args=>
  obtain ⟨g,xs,bT,bN⟩:=w;refine ⟨g,xs,bT,?_⟩;unfold Dk at bN ⊢
  split at bN
  . rename_i q;rw [aqf q];obtain ⟨cy,b,e,v,ab,t1,t2⟩:=bN;exact ⟨cy,b,e,v,ab,t1,sW _ _ t2⟩
  . rename_i q;rw [aqa q];exact cr.mono bN sW
 all_goals
  obtain ⟨v,ab,bT,bN⟩:=w;exact ⟨v,ab,bT,sW _ _ bN⟩
theorem br.wp_mono {o:br} {r:bg} {h:ag} {A B:bg->V->ag->Prop} (qm:∀r v h,A r v h->B r v h) (z:o.wp P r h A):o.wp P r h B:=by
 unfold br.wp at z ⊢
 split at z
 . exact G.wp_mono (fun v ab t=>qm _ _ _ t) z
 . unfold gate at z ⊢
   split at z
   . exact ⟨fun t=>G.wp_mono (fun v ab t=>qm _ _ _ t) (z.1 t),fun t=>qm _ _ _ (z.2 t)⟩
   . exact qm _ _ _ z
   . exact z
theorem MV:∀{os:List br} {r:bg} {h:ag} {A B:bg->ag->Prop},(∀r h,A r h->B r h)->o3 P os r h A->o3 P os r h B
 | [],_,_,_,_,f,H=>f _ _ H
 | o::os,r,h,A,B,f,H=>br.wp_mono (fun bb v ab t=>MV (os:=os) f t) H
theorem MT:∀{os:List br} {r:bg} {h:ag} {A B:List f_->bg->ag->Prop},(∀es r h,A es r h->B es r h)->kP P os r h A->kP P os r h B
 | [],_,_,_,_,f,H=>f _ _ _ H
 | o::os,r,h,A,B,f,H=>br.wp_mono (fun bb v ab t=>MT (os:=os) (fun es r h q=>f _ r h q) t) H
def G.agj:G->Bool
 | .nq _=>true
 | _=>false
def aR.mF:aR->Bool
 | .aj ops=>ops.all fun o=>!o.g.agj
 | .seq a b=>a.mF&&b.mF
 | .cond _ a b=>a.mF&&b.mF
 | .block _ b=>b.mF
 | .loop b=>b.mF
 | .range _ _ _ _ _=>false
 | _=>true
theorem AX {e:cV} {A jx B At:Prop} (bp:A->jx) (ak:B->At) (H:e.andThen A B):e.andThen jx At:=by
 cases e<;>first
  | exact bp H
  | exact ak H
theorem IG:∀(rc:aR) {r:bg} {h:ag} {Q dk:cV->bg->ag->Prop},rc.mF=true->(∀e r h,Q e r h->dk e r h)->ft P rc r h Q->gg P rc r h dk:=by
 intro rc
 induction rc with
 | aj ops=>
   intro r h Q dk aW f H;refine QZ ops r h _ (fun o aY x e=>?_) (MV (f .normal) H);have:=aqu.1 aW o aY;rw [e] at this;cases this
 | draw ops asks=>
   intro r h Q dk aW f H;exact MT (fun es r h t=>⟨t.1,f _ _ _ t.2⟩) H
 | seq a b w7 w8=>
   intro r h Q dk aW f H;simp only [aR.mF,ap2] at aW;exact w7 aW.1 (fun e r h t=>AX (fun q=>w8 aW.2 f q) (f _ _ _) t) H
 | cond c a b w7 w8=>
   intro r h Q dk aW f H;simp only [aR.mF,ap2] at aW;simp only [ft] at H;simp only [gg];cases bz:c.aT r<;>rw [bz] at H<;>simp only at H ⊢;exact ⟨fun t=>w7 aW.1 f (H.1 t),fun t=>w8 aW.2 f (H.2 t)⟩
 | block id b bd=>intro r h Q dk aW f H;exact bd aW (fun e r h t=>f _ _ _ t) H
 | loop b bd=>
   intro r h Q dk aW f H;obtain ⟨I,μ,a1,aa⟩:=H;exact ⟨I,μ,a1,fun r h aB=>bd aW (fun e r h t=>AX (fun q=>q) (f _ _ _) t) (aa r h aB)⟩
 | bad=>intro r h Q dk aW f H;exact H
 | skip=>intro r h Q dk aW f H;exact f _ _ _ H
 | exit id=>intro r h Q dk aW f H;exact f _ _ _ H
 | ret=>intro r h Q dk aW f H;exact f _ _ _ H
 | range f bo ay a b _ _=>intro r h Q dk aW;cases aW
theorem anW:∀(rc:aR) {r:bg} {h:ag} {Q dk:cV->bg->ag->Prop},rc.mF=true->(∀e r h,Q e r h->dk e r h)->ft P rc r h Q->ft P rc r h dk:=by
 intro rc
 induction rc with
 | aj ops=>intro r h Q dk aW f H;exact MV (f .normal) H
 | draw ops asks=>intro r h Q dk aW f H;exact MT (fun es r h t=>⟨t.1,f _ _ _ t.2⟩) H
 | seq a b w7 w8=>
   intro r h Q dk aW f H;simp only [aR.mF,ap2] at aW;exact w7 aW.1 (fun e r h t=>AX (fun q=>w8 aW.2 f q) (f _ _ _) t) H
 | cond c a b w7 w8=>
   intro r h Q dk aW f H;simp only [aR.mF,ap2] at aW;simp only [ft] at H ⊢;cases bz:c.aT r<;>rw [bz] at H<;>simp only at H ⊢;exact ⟨fun t=>w7 aW.1 f (H.1 t),fun t=>w8 aW.2 f (H.2 t)⟩
 | block id b bd=>intro r h Q dk aW f H;exact bd aW (fun e r h t=>f _ _ _ t) H
 | loop b bd=>
   intro r h Q dk aW f H;obtain ⟨I,μ,a1,aa⟩:=H;exact ⟨I,μ,a1,fun r h aB=>bd aW (fun e r h t=>AX (fun q=>q) (f _ _ _) t) (aa r h aB)⟩
 | bad=>intro r h Q dk aW f H;exact H
 | skip=>intro r h Q dk aW f H;exact f _ _ _ H
 | exit id=>intro r h Q dk aW f H;exact f _ _ _ H
 | ret=>intro r h Q dk aW f H;exact f _ _ _ H
 | range f bo ay a b _ _=>intro r h Q dk aW;cases aW
theorem MU {a:aR} {aP:List iy} {r:bg} {h:ag} {Q:cV->bg->ag->Prop} (J:bg->ag->Prop) (aW:a.mF=true) (H:ft P a r h fun e bb ab=>e.andThen (J bb ab) (bt P aP e bb ab Q)) (K:∀bb ab,J bb ab->bt P aP .normal bb ab Q):bt P (.c a::aP) .normal r h Q:=
 anW a aW (fun e bb ab t=>by
  cases e with
  | normal=>exact K bb ab t
  | exit i=>exact t
  | ret=>exact t) H
theorem abZ {a b:aR} {r:bg} {h:ag} {Q:cV->bg->ag->Prop} (aW:a.mF=true) (H:ft P a r h fun e bb ab=>e.andThen (gg P b bb ab Q) (Q e bb ab)):gg P (.seq a b) r h Q:=
 IG a aW (fun _ _ _ q=>q) H
theorem IF {a:aR} {r:bg} {h:ag} {Q:cV->bg->ag->Prop} (aW:a.mF=true) (H:ft P a r h Q):gg P a r h Q:=IG a aW (fun _ _ _ q=>q) H
end
end
end Go.Proofs.YtgmhjhgoamjeeaaGreatDoor.a7
