/- The abstract machine and its walks (a verified interpreter of the model's code: plain definitions and lemmas, no condition). Printed by a program from longer texts: names made short. -/
import Derived.Test.YtgmhjhgoamjeeaaGreatDoorM15
set_option linter.unusedSectionVars false
set_option linter.unusedSimpArgs false
set_option linter.unusedVariables false
set_option maxHeartbeats 64000000
noncomputable section
namespace Go.Proofs.YtgmhjhgoamjeeaaGreatDoor.aX
section
open Go Go.RowKit
variable [Lay]
section
variable {P:Program}
theorem G.wp_mono {g:G} {r:bc} {h:ae} {C D:V->ae->Prop} (ss:∀v h,C v h->D v h) (w:g.wp P r h C):g.wp P r h D:=by
 cases g
 case call f args=>exact c9.mono w ss
 case lD f args=>
  obtain ⟨g,xs,bW,bx⟩:=w;refine ⟨g,xs,bW,?_⟩;unfold CJ at bx ⊢
  split at bx
  . rename_i q;rw [apz q];obtain ⟨cp,b,e,v,ab,t1,t2⟩:=bx;exact ⟨cp,b,e,v,ab,t1,ss _ _ t2⟩
  . rename_i q;rw [apw q];exact c9.mono bx ss
 all_goals
  obtain ⟨v,ab,bW,bx⟩:=w;exact ⟨v,ab,bW,ss _ _ bx⟩
theorem bw.wp_mono {o:bw} {r:bc} {h:ae} {A B:bc->V->ae->Prop} (pJ:∀r v h,A r v h->B r v h) (z:o.wp P r h A):o.wp P r h B:=by
 unfold bw.wp at z ⊢
 split at z
 . exact G.wp_mono (fun v ab t=>pJ _ _ _ t) z
 . unfold gate at z ⊢
   split at z
   . exact ⟨fun t=>G.wp_mono (fun v ab t=>pJ _ _ _ t) (z.1 t),fun t=>pJ _ _ _ (z.2 t)⟩
   . exact pJ _ _ _ z
   . exact z
theorem Mg:∀{os:List bw} {r:bc} {h:ae} {A B:bc->ae->Prop},(∀r h,A r h->B r h)->oc P os r h A->oc P os r h B
 | [],_,_,_,_,f,H=>f _ _ H
 | o::os,r,h,A,B,f,H=>bw.wp_mono (fun a_ v ab t=>Mg (os:=os) f t) H
theorem Me:∀{os:List bw} {r:bc} {h:ae} {A B:List fA->bc->ae->Prop},(∀es r h,A es r h->B es r h)->kj P os r h A->kj P os r h B
 | [],_,_,_,_,f,H=>f _ _ _ H
 | o::os,r,h,A,B,f,H=>bw.wp_mono (fun a_ v ab t=>Me (os:=os) (fun es r h q=>f _ r h q) t) H
def G.afC:G->Bool
 | .lS _=>true
 | _=>false
def a1.lR:a1->Bool
 | .au ops=>ops.all fun o=>!o.g.afC
 | .seq a b=>a.lR&&b.lR
 | .cond _ a b=>a.lR&&b.lR
 | .block _ b=>b.lR
 | .loop b=>b.lR
 | .range _ _ _ _ _=>false
 | _=>true
theorem Ag {e:cO} {A iF B ts:Prop} (bt:A->iF) (ah:B->ts) (H:e.andThen A B):e.andThen iF ts:=by
 cases e<;>first
  | exact bt H
  | exact ah H
theorem Ib:∀(rc:a1) {r:bc} {h:ae} {Q de:cO->bc->ae->Prop},rc.lR=true->(∀e r h,Q e r h->de e r h)->e7 P rc r h Q->fa P rc r h de:=by
 intro rc
 induction rc with
 | au ops=>
   intro r h Q de aV f H;refine PU ops r h _ (fun o aU x e=>?_) (Mg (f .normal) H);have:=apU.1 aV o aU;rw [e] at this;cases this
 | draw ops asks=>
   intro r h Q de aV f H;exact Me (fun es r h t=>⟨t.1,f _ _ _ t.2⟩) H
 | seq a b wv wx=>
   intro r h Q de aV f H;simp only [a1.lR,apq] at aV;exact wv aV.1 (fun e r h t=>Ag (fun q=>wx aV.2 f q) (f _ _ _) t) H
 | cond c a b wv wx=>
   intro r h Q de aV f H;simp only [a1.lR,apq] at aV;simp only [e7] at H;simp only [fa];cases bs:c.aP r<;>rw [bs] at H<;>simp only at H ⊢;exact ⟨fun t=>wv aV.1 f (H.1 t),fun t=>wx aV.2 f (H.2 t)⟩
 | block id b bb=>intro r h Q de aV f H;exact bb aV (fun e r h t=>f _ _ _ t) H
 | loop b bb=>
   intro r h Q de aV f H;obtain ⟨I,μ,aY,aa⟩:=H;exact ⟨I,μ,aY,fun r h ax=>bb aV (fun e r h t=>Ag (fun q=>q) (f _ _ _) t) (aa r h ax)⟩
 | bad=>intro r h Q de aV f H;exact H
 | skip=>intro r h Q de aV f H;exact f _ _ _ H
 | exit id=>intro r h Q de aV f H;exact f _ _ _ H
 | ret=>intro r h Q de aV f H;exact f _ _ _ H
 | range f bn aq a b _ _=>intro r h Q de aV;cases aV
theorem am8:∀(rc:a1) {r:bc} {h:ae} {Q de:cO->bc->ae->Prop},rc.lR=true->(∀e r h,Q e r h->de e r h)->e7 P rc r h Q->e7 P rc r h de:=by
 intro rc
 induction rc with
 | au ops=>intro r h Q de aV f H;exact Mg (f .normal) H
 | draw ops asks=>intro r h Q de aV f H;exact Me (fun es r h t=>⟨t.1,f _ _ _ t.2⟩) H
 | seq a b wv wx=>
   intro r h Q de aV f H;simp only [a1.lR,apq] at aV;exact wv aV.1 (fun e r h t=>Ag (fun q=>wx aV.2 f q) (f _ _ _) t) H
 | cond c a b wv wx=>
   intro r h Q de aV f H;simp only [a1.lR,apq] at aV;simp only [e7] at H ⊢;cases bs:c.aP r<;>rw [bs] at H<;>simp only at H ⊢;exact ⟨fun t=>wv aV.1 f (H.1 t),fun t=>wx aV.2 f (H.2 t)⟩
 | block id b bb=>intro r h Q de aV f H;exact bb aV (fun e r h t=>f _ _ _ t) H
 | loop b bb=>
   intro r h Q de aV f H;obtain ⟨I,μ,aY,aa⟩:=H;exact ⟨I,μ,aY,fun r h ax=>bb aV (fun e r h t=>Ag (fun q=>q) (f _ _ _) t) (aa r h ax)⟩
 | bad=>intro r h Q de aV f H;exact H
 | skip=>intro r h Q de aV f H;exact f _ _ _ H
 | exit id=>intro r h Q de aV f H;exact f _ _ _ H
 | ret=>intro r h Q de aV f H;exact f _ _ _ H
 | range f bn aq a b _ _=>intro r h Q de aV;cases aV
theorem Mf {a:a1} {aM:List h9} {r:bc} {h:ae} {Q:cO->bc->ae->Prop} (J:bc->ae->Prop) (aV:a.lR=true) (H:e7 P a r h fun e a_ ab=>e.andThen (J a_ ab) (bo P aM e a_ ab Q)) (K:∀a_ ab,J a_ ab->bo P aM .normal a_ ab Q):bo P (.c a::aM) .normal r h Q:=
 am8 a aV (fun e a_ ab t=>by
  cases e with
  | normal=>exact K a_ ab t
  | exit i=>exact t
  | ret=>exact t) H
theorem PY {a b:a1} {r:bc} {h:ae} {Q:cO->bc->ae->Prop} (aV:a.lR=true) (H:e7 P a r h fun e a_ ab=>e.andThen (fa P b a_ ab Q) (Q e a_ ab)):fa P (.seq a b) r h Q:=
 Ib a aV (fun _ _ _ q=>q) H
theorem nH {a:a1} {r:bc} {h:ae} {Q:cO->bc->ae->Prop} (aV:a.lR=true) (H:e7 P a r h Q):fa P a r h Q:=Ib a aV (fun _ _ _ q=>q) H
end
end
end Go.Proofs.YtgmhjhgoamjeeaaGreatDoor.aX
