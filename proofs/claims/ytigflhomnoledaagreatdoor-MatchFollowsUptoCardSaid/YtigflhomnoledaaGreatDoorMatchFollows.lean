/- MatchFollows -/
import Derived.Test.YtigflhomnoledaaGreatDoorM6
import Derived.Test.YtigflhomnoledaaGreatDoorM5
import Derived.WalkKit
import Derived.ProofKit
import Derived.OpenShut
import Derived.ChangeSame
import Derived.SevenTiedAt
import Derived.Deep.DeepHandedRow
import Derived.Test.YtigflhomnoledaaGreatDoorCards
import Derived.Test.YtigflhomnoledaaGreatDoorTie
set_option linter.unusedSectionVars false
set_option linter.unusedSimpArgs false
set_option linter.unusedVariables false
namespace Go.Proofs.YtigflhomnoledaaGreatDoor.matchFollows
open Go.ChangeShapes Go.WideShapes Go.ChangeAt Go.RowKit
theorem own : ownKnob Tryz.prog.godebug = none := by kernel_rfl
theorem tiled : Am.tilesB Tryz.prog = true := by kernel_rfl
theorem laidOut : laidOutB Tryz.prog = true := by kernel_rfl
mutual
theorem bulk_eq {H : Type} : ∀ d : DataW H, Rows.uptoBulk d = Am.bulk d
  | .lit l => by cases l <;> simp only [Rows.uptoBulk, Am.bulk]
  | .nil => by simp only [Rows.uptoBulk, Am.bulk]
  | .ptr d => by simp only [Rows.uptoBulk, Am.bulk, bulk_eq d]
  | .slice e s => by simp only [Rows.uptoBulk, Am.bulk, bulks_eq e, bulks_eq s]
  | .agg p => by simp only [Rows.uptoBulk, Am.bulk, bulks_eq p]
  | .iface _ d => by simp only [Rows.uptoBulk, Am.bulk, bulk_eq d]
  | .map e => by simp only [Rows.uptoBulk, Am.bulk, bulke_eq e]
  | .held _ => by simp only [Rows.uptoBulk, Am.bulk]
theorem bulks_eq {H : Type} : ∀ l : List (DataW H), Rows.uptoBulkAll l = Am.bulkAll l
  | [] => rfl
  | d :: r => by simp only [Rows.uptoBulkAll, Am.bulkAll, bulk_eq d, bulks_eq r]
theorem bulke_eq {H : Type} : ∀ l : List (Lit × DataW H), Rows.uptoBulkEntries l = Am.bulkEntries l
  | [] => rfl
  | x :: r => by simp only [Rows.uptoBulkEntries, Am.bulkEntries, bulk1_eq x, bulke_eq r]
theorem bulk1_eq {H : Type} : ∀ x : Lit × DataW H, Rows.uptoBulkEntry x = Am.bulkEntry x
  | (l, d) => by cases l <;> simp only [Rows.uptoBulkEntry, Am.bulkEntry, bulk_eq d]
end
theorem bound {H : Type} {l : List (DataW H)} (hk : Rows.uptoSmall H l = true) : Am.bulkAll l ≤ 1048576 := by
  rw [← bulks_eq]
  simpa [Rows.uptoSmall] using hk
set_option maxRecDepth 100000 in
theorem told (h : Am.Heap) (xs : List Am.V) (hs : Am.ShpL Tryz.prog h 1048576 Tryz.f4.params.toList xs) : Am.Ctr Tryz.prog 4 xs h fun y _ => y = .bool true := by
  rw [Tryz.params4] at hs
  obtain ⟨a, bs, k, k', n, rfl, hk, h0, h1⟩ := Am.shp_cons hs
  obtain ⟨a2, bs2, k2, k2', n2, rfl, hk2, h2, h3⟩ := Am.shp_cons h1
  obtain rfl := Am.shp_none h3
  obtain ⟨n', len, g⟩ := Am.shpv_slice h0 Tryz.underlying43 cells61 (by decide)
  obtain ⟨d, _, _, Hd⟩ := Am.open_list Ch.enc g (by omega) fun k vs hk q => open_choice q (by omega)
  obtain ⟨vs, rfl, g2⟩ := Am.shpv_struct h2 Tryz.underlying29
  obtain ⟨t, Ht, _⟩ := open_tree n2 g2 (by omega)
  exact law_ctr d t a vs h Hd Ht
theorem witness {H : Type} {enc : TypeId × Value → H} {C : Checked} {os : Os} {f : FuncId} {fn : Func} {s : OpenSpec} {conds : List PathCond} {apart : Bool} {laid : List (String × DataW Unit)} (modest : Bool) (w0 : World) (args : Array Value) (hos : w0.os = os)
    (hsh : (w0.forCall (fun _ _ => 0) ⟨#[], args, []⟩).Shaped C.prog)
    (hok : Input.okWideB C.prog (w0.forCall (fun _ _ => 0) ⟨#[], args, []⟩) f ⟨#[], args, []⟩ = true)
    (hrow : s.preRow enc C.prog fn conds apart laid (w0.forCall (fun _ _ => 0) ⟨#[], args, []⟩).memory args) :
    ∃ (w : World) (tape : Tape) (i : Input), w.os = os ∧ (w.forCall tape i).Shaped C.prog ∧ i.vars = [] ∧ Input.okWide C.prog (w.forCall tape i) .any w.heap.size f i ∧
      s.preRow enc C.prog fn conds apart laid (w.forCall tape i).memory i.args ∧ ({ modest := modest } : Assume).holds C.prog (lone (Frame.enter C.prog f i.args .normal) [] (w.forCall tape i)) :=
  ⟨w0, fun _ _ => 0, ⟨#[], args, []⟩, hos, hsh, (Input.okWide_of_okWideB (base := 0) hok).1, (Input.okWide_of_okWideB hok).2, hrow, by
    simp only [Assume.holds]
    exact ⟨by simp, by simp, fun _ => Modest.zero, by simp, by simp⟩⟩
set_option maxRecDepth 100000 in
theorem lifted (os : Os) (started : os.Started) (H : Type) (enc : TypeId × Value → H) (F : Stop.Interp) :
    ReturnsInHanded {} Tryz.checked os 4 .any ((Rows.OpenSpec.upto Rows.matchFollowsSpec).preRow enc Tryz.prog Tryz.f4 Rows.matchFollowsUptoRow.domain false Rows.matchFollowsUptoRow.laid) (((Rows.OpenSpec.upto Rows.matchFollowsSpec).at F).post enc Tryz.prog Tryz.f4 false true false false) := by
  refine returnsInHanded_of_row (C := Tryz.checked) (s := Rows.OpenSpec.upto Rows.matchFollowsSpec) own started (by kernel_rfl) Tryz.func4
    (witness (enc := enc) (C := Tryz.checked) (os := os) false (World.laidAll Tryz.prog os Rows.matchFollowsUptoRow.laid) #[.slice none 0 0, .agg #[.int .i64 0, .int .i64 0, .slice none 0 0]] (World.laidAll_os _ _ _)
      (World.shaped_of_ZipB (by kernel_rfl) (by kernel_rfl)) (by kernel_rfl)
      (OpenSpec.preRow_of_cond 8 (x := ([.nil, .agg [.lit (.int .i64 0), .lit (.int .i64 0), .nil]], [], [])) (by kernel_rfl) (by kernel_rfl) (fun k hk => by cases hk; kernel_rfl) (by kernel_rfl)
        (by rw [MakeChecks.laidMetH_plain _ _ _ (by kernel_rfl)]; exact laidMet_laidAll _ (by kernel_rfl) (by kernel_rfl)))) ?_
  intro W base args ds gs before hval hW _ hk _ hL hsh _
  refine Am.law_true (s := Rows.matchFollowsSpec) (tb := 4) tiled laidOut (by kernel_rfl) rfl (by kernel_rfl) Tryz.underlying4 (fun ds hl => ?_) told (bound (hk _ rfl)) (libOk_of hsh) namesOk ⟨_, Tryz.func4, by kernel_rfl⟩ hval hW
  match ds, hl with
  | [d1, d2], _ => rfl
theorem over : Rows.matchFollowsUptoRow.holds Tryz.pinned (Rows.OpenSpec.upto Rows.matchFollowsSpec) :=
  OpenClaim.holds_of_cond 4 Tryz.f4 rfl rfl rfl rfl rfl rfl rfl ⟨rfl, rfl, rfl, rfl, rfl⟩ rfl rfl rfl rfl rfl (by kernel_rfl) Tryz.func4 (by kernel_rfl)
    (of_decide_eq_true (by kernel_rfl)) (by unfold Func.isWrapper; first | (rw [if_pos (by decide +kernel)]; kernel_rfl) | (rw [if_neg (by decide +kernel)]; exact ⟨rfl, rfl⟩))
    (fun os started H enc _ F => by rw [OpenClaim.pre_eq_preRow]; exact lifted os started H enc F)
theorem plain (f : FuncId) (fn : Func) (hf : Tryz.pinned.checked.prog.funcNamed "gimlet/gimletlaw24.MatchFollows" = some f) (hfn : Tryz.pinned.checked.prog.funcs[f]? = some fn) :
    true = Tryz.pinned.checked.prog.looks [] ∧ ∀ (j : Nat) t, fn.params[j]? = some t → Tryz.pinned.checked.prog.wantsStandIn t = false := by
  obtain rfl : f = 4 := Option.some.inj ((show Tryz.prog.funcNamed "gimlet/gimletlaw24.MatchFollows" = some 4 by kernel_rfl).symm.trans hf) |>.symm
  obtain rfl : fn = Tryz.f4 := (Option.some.inj (Tryz.func4.symm.trans hfn)).symm
  refine ⟨by kernel_rfl, fun j t ht => ?_⟩
  rw [Tryz.params4] at ht
  have hm : t ∈ [43, 29] := by simpa using Array.mem_of_getElem? ht
  have hall : ([43, 29].all fun u => !Tryz.prog.wantsStandIn u) = true := by kernel_rfl
  exact (show Tryz.prog.wantsStandIn t = false by simpa using List.all_eq_true.1 hall t hm)
theorem proved : Rows.MatchFollowsUptoCardSaid :=
  Claim7.holds_tied_plain_at .later [] [.data, .data, .data, .data, .sentinel, .sentinel, .pinned] true (true, "569fced203168eae9b6ef78cc0af5df7138159b4a0f59d975881c44721f86270") true
    over (fun _ h => by cases h) (by kernel_rfl) (fun _ h => by cases h) matchFollowsUpto_row_tie rfl ⟨rfl, rfl⟩ (by kernel_rfl) rfl plain (by kernel_rfl)
#print axioms proved
end Go.Proofs.YtigflhomnoledaaGreatDoor.matchFollows
