/- What the law CoreMore says (with more steps a core program does the same, and more) holds for every part, every input, every number of steps, of bulk at most 1,048,576. -/
import Derived.Test.YtjbiefneffiogaaGreatM12
import Derived.WalkKit
import Derived.ProofKit
import Derived.OpenShut
import Derived.ChangeSame
import Derived.JoinedCond

namespace Go.Proofs.YtjbiefneffiogaaGreat.coreMore
open Go.ChangeShapes Go.WideShapes Go.ChangeAt Go.RowKit
theorem own : ownKnob Tryz.prog.godebug = none := by kernel_rfl
theorem tiled : Am.tilesB Tryz.prog = true := by kernel_rfl
theorem laidOut : laidOutB Tryz.prog = true := by kernel_rfl
mutual
theorem bulk_eq {H : Type} : ∀ d : DataW H, Rows.uptoBulk d = Am.bulk d
  | .lit l => by cases l <;> simp only [Rows.uptoBulk, Am.bulk]
  | .nil => by simp only [Rows.uptoBulk, Am.bulk]
  | .ptr d => by simp only [Rows.uptoBulk, Am.bulk, bulk_eq d]
  | .slice e s => by simp only [Rows.uptoBulk, Am.bulk, bulks_eq e, bulks_eq s]
  | .agg p => by simp only [Rows.uptoBulk, Am.bulk, bulks_eq p]
  | .iface _ d => by simp only [Rows.uptoBulk, Am.bulk, bulk_eq d]
  | .map e => by simp only [Rows.uptoBulk, Am.bulk, bulke_eq e]
  | .held _ => by simp only [Rows.uptoBulk, Am.bulk]
theorem bulks_eq {H : Type} : ∀ l : List (DataW H), Rows.uptoBulkAll l = Am.bulkAll l
  | [] => rfl
  | d :: r => by simp only [Rows.uptoBulkAll, Am.bulkAll, bulk_eq d, bulks_eq r]
theorem bulke_eq {H : Type} : ∀ l : List (Lit × DataW H), Rows.uptoBulkEntries l = Am.bulkEntries l
  | [] => rfl
  | x :: r => by simp only [Rows.uptoBulkEntries, Am.bulkEntries, bulk1_eq x, bulke_eq r]
theorem bulk1_eq {H : Type} : ∀ x : Lit × DataW H, Rows.uptoBulkEntry x = Am.bulkEntry x
  | (l, d) => by cases l <;> simp only [Rows.uptoBulkEntry, Am.bulkEntry, bulk_eq d]
end
theorem bound {H : Type} {l : List (DataW H)} (hk : Rows.uptoSmall H l = true) : Am.bulkAll l ≤ 1048576 := by
  rw [← bulks_eq]
  simpa [Rows.uptoSmall] using hk
set_option maxRecDepth 100000 in
theorem told (h : Am.Heap) (xs : List Am.V) (hs : Am.ShpL Tryz.prog h 1048576 Tryz.f8.params.toList xs) : Am.Ctr Tryz.prog 8 xs h fun y _ => y = .bool true := by
  rw [Tryz.params8] at hs
  obtain ⟨a, bs, k, k', n, rfl, hk, h0, h1⟩ := Am.shp_cons hs
  obtain ⟨a2, bs2, k2, k2', n2, rfl, hk2, h2, h3⟩ := Am.shp_cons h1
  obtain ⟨a3, bs3, k3, k3', n3, rfl, hk3, h4, h5⟩ := Am.shp_cons h3
  obtain ⟨a4, bs4, k4, k4', n4, rfl, hk4, h6, h7⟩ := Am.shp_cons h5
  obtain rfl := Am.shp_none h7
  obtain ⟨vs, rfl, g⟩ := Am.shpv_struct h0 Tryz.underlying26
  obtain ⟨c, H, hf⟩ := open_core n g
  obtain ⟨n', len, g2⟩ := Am.shpv_slice h2 Tryz.underlying27 cells5 (by decide)
  obtain ⟨inpl, Hin, hil⟩ := open_bytes g2
  obtain ⟨i3, rfl, _⟩ := Am.shpv_int h4 Tryz.underlying3
  obtain ⟨i4, rfl, _⟩ := Am.shpv_int h6 Tryz.underlying3
  exact more_ctr c (fit.up (by omega) c hf) vs h H Hin (by omega) i3 i4
set_option maxRecDepth 100000 in
theorem lifted (os : Os) (started : os.Started) (H : Type) (enc : TypeId × Value → H) (F : Stop.Interp) :
    ReturnsInHanded {} Tryz.checked os 8 .any ((Rows.OpenSpec.upto Rows.coreMoreSpec).pre6 enc Tryz.prog Tryz.f8 Rows.coreMoreUptoRow.domain false) (((Rows.OpenSpec.upto Rows.coreMoreSpec).at F).post enc Tryz.prog Tryz.f8 false true false false) := by
  refine returnsInHanded_of_cond (C := Tryz.checked) (s := Rows.OpenSpec.upto Rows.coreMoreSpec) (k := Rows.uptoSmall) rfl own started (by kernel_rfl) Tryz.func8
    (OpenSpec.witness (enc := enc) (C := Tryz.checked) (s := Rows.OpenSpec.upto Rows.coreMoreSpec) (k := Rows.uptoSmall) rfl false ⟨#[], #[.agg #[.int .i64 0, .int .i64 0, .int .i64 0, .string ⟨#[]⟩, .slice none 0 0, .slice none 0 0, .slice none 0 0], .slice none 0 0, .int .i64 0, .int .i64 0], []⟩ 8 (by kernel_rfl) (by kernel_rfl) (by kernel_rfl)
      (x := ([.agg [.lit (.int .i64 0), .lit (.int .i64 0), .lit (.int .i64 0), .lit (.string []), .nil, .nil, .nil], .nil, .lit (.int .i64 0), .lit (.int .i64 0)], [], [])) (by kernel_rfl) rfl (by kernel_rfl)) ?_
  intro W base args ds gs before hval hW _ hk _
  refine Am.law_true (s := Rows.coreMoreSpec) (tb := 4) tiled laidOut (by kernel_rfl) rfl (by kernel_rfl) Tryz.underlying4 (fun ds hl => ?_) told (bound hk) trivial namesOk ⟨_, Tryz.func8, by kernel_rfl⟩ hval hW
  match ds, hl with
  | [d1, d2, d3, d4], _ => rfl
theorem over : Rows.coreMoreUptoRow.holds Tryz.pinned (Rows.OpenSpec.upto Rows.coreMoreSpec) :=
  OpenClaim.holds_of_cond 8 Tryz.f8 rfl rfl rfl rfl rfl rfl rfl ⟨rfl, rfl, rfl, rfl, rfl⟩ rfl rfl rfl rfl rfl (by kernel_rfl) Tryz.func8 (by kernel_rfl)
    (of_decide_eq_true (by kernel_rfl)) (by unfold Func.isWrapper; first | (rw [if_pos (by decide +kernel)]; kernel_rfl) | (rw [if_neg (by decide +kernel)]; exact ⟨rfl, rfl⟩))
    (fun os started H enc _ F => lifted os started H enc F)
theorem proved : Rows.CoreMoreUptoSaid :=
  over
#print axioms proved
end Go.Proofs.YtjbiefneffiogaaGreat.coreMore
