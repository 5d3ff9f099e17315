/- The law TypesMost of the types chapter (the unifier is the most general one), proved by the abstract machine. -/
import Derived.Test.YthemdhlheglhoaaGreatDoorM17
import Derived.Test.YthemdhlheglhoaaGreatDoorM19
import Derived.Test.YthemdhlheglhoaaGreatDoorM4
import Derived.WalkKit
import Derived.ProofKit
import Derived.OpenShut
import Derived.ChangeSame
import Derived.SevenTiedAt
import Derived.Deep.DeepHandedRow
import Derived.Test.YthemdhlheglhoaaGreatDoorCards
import Derived.Test.YthemdhlheglhoaaGreatDoorTie
set_option linter.unusedSectionVars false
set_option linter.unusedSimpArgs false
set_option linter.unusedVariables false
set_option maxHeartbeats 64000000
noncomputable section
namespace Go.Proofs.YthemdhlheglhoaaGreatDoor.typesMost
open Go.ChangeShapes Go.WideShapes Go.ChangeAt Go.RowKit
theorem own:ownKnob Tryz.prog.godebug=none:=by kernel_rfl
theorem tiled:aY.xm Tryz.prog=true:=by kernel_rfl
theorem laidOut:laidOutB Tryz.prog=true:=by kernel_rfl
mutual
theorem DX {H:Type}:∀d:DataW H,Rows.uptoBulk d=aY.fV d
 | .lit l=>by cases l<;>simp only [Rows.uptoBulk,aY.fV]
 | .nil=>by simp only [Rows.uptoBulk,aY.fV]
 | .ptr d=>by simp only [Rows.uptoBulk,aY.fV,DX d]
 | .slice e s=>by simp only [Rows.uptoBulk,aY.fV,AQ e,AQ s]
 | .agg p=>by simp only [Rows.uptoBulk,aY.fV,AQ p]
 | .iface _ d=>by simp only [Rows.uptoBulk,aY.fV,DX d]
 | .map e=>by simp only [Rows.uptoBulk,aY.fV,Px e]
 | .held _=>by simp only [Rows.uptoBulk,aY.fV]
theorem AQ {H:Type}:∀l:List (DataW H),Rows.uptoBulkAll l=aY.l' l
 | []=>rfl
 | d::r=>by simp only [Rows.uptoBulkAll,aY.l',DX d,AQ r]
theorem Px {H:Type}:∀l:List (Lit × DataW H),Rows.uptoBulkEntries l=aY.DW l
 | []=>rfl
 | x::r=>by simp only [Rows.uptoBulkEntries,aY.DW,aas x,Px r]
theorem aas {H:Type}:∀x:Lit × DataW H,Rows.uptoBulkEntry x=aY.IQ x
 | (l,d)=>by cases l<;>simp only [Rows.uptoBulkEntry,aY.IQ,DX d]
end
theorem bound {H:Type} {l:List (DataW H)} (aD:Rows.uptoSmall H l=true):aY.l' l<=1048576:=by rw [<-AQ];simpa [Rows.uptoSmall] using aD
set_option maxRecDepth 100000 in
theorem told (h:aY.ah) (xs:List aY.V) (aM:aY.nE Tryz.prog h 1048576 Tryz.f9.params.toList xs):aY.c4 Tryz.prog 9 xs h fun y _=>y=.bool true:=by rw [Tryz.params9] at aM;obtain ⟨a,ft,k,bo,n,rfl,aD,a8,aa⟩:=aY.M1 aM;obtain ⟨a2,apz,bT,aqs,e8,rfl,Kw,ad,aH⟩:=aY.M1 aa;obtain ⟨a3,apA,en,aqt,n3,rfl,aff,bt,cI⟩:=aY.M1 aH;obtain rfl:=aY.amS cI;obtain ⟨us,rfl,g1⟩:=aY.WC a8 Tryz.underlying35;obtain ⟨ag,rfl,g2⟩:=aY.WC ad Tryz.underlying35;obtain ⟨fW,len,g⟩:=aY.amT bt Tryz.underlying26 QB (by decide);obtain ⟨t1,H1,_,s1⟩:=Gj n g1 (by omega);obtain ⟨t2,cy,_,s2⟩:=Gj e8 g2 (by omega);obtain ⟨s,fo,e2,S⟩:=als g (by omega);exact aku t1 t2 s (by omega) (by omega) (fun p af=>by have:=e2 p af;omega) a3 us ag h H1 cy S
theorem witness {H:Type} {enc:TypeId × Value->H} {C:Checked} {os:Os} {f:FuncId} {fn:Func} {s:OpenSpec} {conds:List PathCond} {apart:Bool} {laid:List (String × DataW Unit)} (modest:Bool) (ay:World) (args:Array Value) (oX:ay.os=os)
 (nZ:(ay.forCall (fun _ _=>0) ⟨#[],args,[]⟩).Shaped C.prog)
 (bF:Input.okWideB C.prog (ay.forCall (fun _ _=>0) ⟨#[],args,[]⟩) f ⟨#[],args,[]⟩=true)
 (K6:s.preRow enc C.prog fn conds apart laid (ay.forCall (fun _ _=>0) ⟨#[],args,[]⟩).memory args):
 ∃(w:World) (tape:Tape) (i:Input),w.os=os/\(w.forCall tape i).Shaped C.prog/\i.vars=[]/\Input.okWide C.prog (w.forCall tape i) .any w.heap.size f i/\
  s.preRow enc C.prog fn conds apart laid (w.forCall tape i).memory i.args/\({modest:=modest}:Assume).holds C.prog (lone (Frame.enter C.prog f i.args .normal) [] (w.forCall tape i)):=
 ⟨ay,fun _ _=>0,⟨#[],args,[]⟩,oX,nZ,(Input.okWide_of_okWideB (base:=0) bF).1,(Input.okWide_of_okWideB bF).2,K6,by simp only [Assume.holds];exact ⟨by simp,by simp,fun _=>Modest.zero,by simp,by simp⟩⟩
set_option maxRecDepth 100000 in
theorem lifted (os:Os) (started:os.Started) (H:Type) (enc:TypeId × Value->H) (F:Stop.Interp):
 ReturnsInHanded {} Tryz.checked os 9 .any ((Rows.OpenSpec.upto Rows.typesMostSpec).preRow enc Tryz.prog Tryz.f9 Rows.typesMostUptoRow.domain false Rows.typesMostUptoRow.laid) (((Rows.OpenSpec.upto Rows.typesMostSpec).at F).post enc Tryz.prog Tryz.f9 false true false false):=by
 refine returnsInHanded_of_row (C:=Tryz.checked) (s:=Rows.OpenSpec.upto Rows.typesMostSpec) own started (by kernel_rfl) Tryz.func9
  (witness (enc:=enc) (C:=Tryz.checked) (os:=os) false (World.laidAll Tryz.prog os Rows.typesMostUptoRow.laid) #[.agg #[.int .i64 0,.int .i64 0,.string ⟨⟨[]⟩⟩,.slice none 0 0],.agg #[.int .i64 0,.int .i64 0,.string ⟨⟨[]⟩⟩,.slice none 0 0],.slice none 0 0] (World.laidAll_os _ _ _)
    (World.shaped_of_ZipB (by kernel_rfl) (by kernel_rfl)) (by kernel_rfl)
    (OpenSpec.preRow_of_cond 8 (x:=([.agg [.lit (.int .i64 0),.lit (.int .i64 0),.lit (.string []),.nil],.agg [.lit (.int .i64 0),.lit (.int .i64 0),.lit (.string []),.nil],.nil],[],[])) (by kernel_rfl) (by kernel_rfl) (fun k aD=>by cases aD;kernel_rfl) (by kernel_rfl)
      (by rw [MakeChecks.laidMetH_plain _ _ _ (by kernel_rfl)];exact laidMet_laidAll _ (by kernel_rfl) (by kernel_rfl)))) ?_
 intro W base args ds gs before Lc vS _ aD _ eY nZ _;rw [MakeChecks.laidMetH_plain _ _ _ (by kernel_rfl)] at eY;refine aY.ajx (s:=Rows.typesMostSpec) (ou:=4) tiled laidOut (by kernel_rfl) rfl (by kernel_rfl) Tryz.underlying4 (fun ds az=>?_) told (bound (aD _ rfl)) (ajZ (fun _ h=>h) eY nZ) wT ⟨_,Tryz.func9,by kernel_rfl⟩ Lc vS
 match ds,az with
 | [d1,d2,d3],_=>rfl
theorem over:Rows.typesMostUptoRow.holds Tryz.pinned (Rows.OpenSpec.upto Rows.typesMostSpec):=
 OpenClaim.holds_of_cond 9 Tryz.f9 rfl rfl rfl rfl rfl rfl rfl ⟨rfl,rfl,rfl,rfl,rfl⟩ rfl rfl rfl rfl rfl (by kernel_rfl) Tryz.func9 (by kernel_rfl)
  (of_decide_eq_true (by kernel_rfl)) (by unfold Func.isWrapper;first | (rw [if_pos (by decide +kernel)];kernel_rfl) | (rw [if_neg (by decide +kernel)];exact ⟨rfl,rfl⟩))
  (fun os started H enc _ F=>by rw [OpenClaim.pre_eq_preRow];exact lifted os started H enc F)
theorem plain (f:FuncId) (fn:Func) (aB:Tryz.pinned.checked.prog.funcNamed "gimlet/gimletlaw19.TypesMost"=some f) (kh:Tryz.pinned.checked.prog.funcs[f]? =some fn):
 true=Tryz.pinned.checked.prog.looks []/\∀(j:Nat) t,fn.params[j]? =some t->Tryz.pinned.checked.prog.wantsStandIn t=false:=by
 obtain rfl:f=9:=Option.some.inj ((show Tryz.prog.funcNamed "gimlet/gimletlaw19.TypesMost"=some 9 by kernel_rfl).symm.trans aB) |>.symm;obtain rfl:fn=Tryz.f9:=(Option.some.inj (Tryz.func9.symm.trans kh)).symm;refine ⟨by kernel_rfl,fun j t au=>?_⟩;rw [Tryz.params9] at au;have hm:t ∈ [35,35,26]:=by simpa using Array.mem_of_getElem? au
 have eb:([35,35,26].all fun u=>!Tryz.prog.wantsStandIn u)=true:=by kernel_rfl
 exact (show Tryz.prog.wantsStandIn t=false by simpa using List.all_eq_true.1 eb t hm)
theorem proved:Rows.TypesMostUptoCardSaid:=
 Claim7.holds_tied_plain_at .later [] [.data,.data,.data,.data,.sentinel,.sentinel,.pinned] true (true, "fd282c945bc828b13af569b0c305e3ea8f7e6da945325eb930921411db30dfc6") true
  over (fun _ h=>by cases h) (by kernel_rfl) (fun _ h=>by cases h) typesMostUpto_row_tie rfl ⟨rfl,rfl⟩ (by kernel_rfl) rfl plain (by kernel_rfl)
#print axioms proved
end Go.Proofs.YthemdhlheglhoaaGreatDoor.typesMost
